/-
  The library's symMerge, where the second run holds one.
-/
import Derived.Test.YtnolckhideellaaSym1
namespace Go.Proofs.Ytnolckhideellaa
open Go.RowKit Go.Deep

theorem rotF_back (f : Nat → Int) (m k : Nat) (h : k + 1 ≤ m) : swF (rotF f (k + 1) m (m + 1)) (k + 1) k = rotF f k m (m + 1) := by
  funext x
  unfold swF rotF
  repeat' split
  all_goals first | omega | (congr 1; omega) | (exfalso; omega)
theorem rotF_none (f : Nat → Int) (m : Nat) : rotF f m m (m + 1) = f := by
  funext x
  unfold rotF
  repeat' split
  all_goals first | omega | (congr 1; omega) | (exfalso; omega)

set_option maxRecDepth 100000 in
set_option maxHeartbeats 8000000 in
theorem sym_back (G c n a m b tb A : Nat) (f T : Nat → Int) (w : World) (hm : b = m + 1) (hma : a + 1 < m) (hN : Nums w G n f) (hf : Tasks n f) (hr : Runs (tt T) f a m b) (hS : SortAt w G n tb A T) (hb : b ≤ n) (hn : n ≤ 1000) :
    Calls Try.prog 25 #[.slice (some ⟨G, 0, none⟩) n c, .int .i64 (a : Int), .int .i64 (m : Int), .int .i64 (b : Int), cvU tb] w fun e w' => e = .returned (.tuple #[]) ∧ ∃ g, Nums w' G n g ∧ SR (tt T) g a b ∧ Re f g a b ∧ Only [G] w w' := by
  unfold cvU
  have HF := Lib.hid hf
  have HS := Lib.hid hS
  have HR := Lib.hid hr
  have HN := Lib.hid hN
  have hmb := hr.mb
  obtain ⟨d, hd1⟩ : ∃ d, m - a = d := ⟨_, rfl⟩
  have hd : (m : Int) - (a : Int) = (d : Int) := by omega
  have hd2 : ((d : Int) == 1) = false := by simp; omega
  have hbm : (b : Int) - (m : Int) = 1 := by omega
  clear hd1
  have HM := Lib.hid hm
  clear hf hS hr hN hm
  go_enter Try.func25, Try.ntmps25
  go_wp2_with fail
  go_loopw [14, 15] (fun vi vj wr => ∃ i j : Nat, vi = .int .i64 i ∧ vj = .int .i64 j ∧ a ≤ i ∧ i ≤ j ∧ j ≤ m ∧ (∀ x, a ≤ x → x < i → tt T (f m) ≤ tt T (f x)) ∧ (∀ x, j ≤ x → x < m → tt T (f x) < tt T (f m)) ∧ Nums wr G n f ∧ Only [G] w wr) (fun vi vj _ => (intOf vj).toNat - (intOf vi).toNat)
  case atStart => exact ⟨a, m, rfl, rfl, Nat.le_refl _, by omega, Nat.le_refl _, fun x h1 h2 => by omega, fun x h1 h2 => by omega, HN.out, Only.refl _ _⟩
  case round =>
    clear hd hd2 hbm
    obtain ⟨wo, rfl⟩ : ∃ wo : World, wo = wr := ⟨_, rfl⟩
    obtain ⟨i, j, rfl, rfl, h1, h2, h3, hlo, hhi, hNo, ho⟩ := hrel
    have HLO := Lib.hid hlo
    have HHI := Lib.hid hhi
    have HNO := Lib.hid hNo
    have HO := Lib.hid ho
    clear hlo hhi
    by_cases hij : i < j
    · obtain ⟨h, hh⟩ : ∃ h, (i + j) / 2 = h := ⟨_, rfl⟩
      have hsh : ((i : Int) + (j : Int)) / 2 = (h : Int) := by omega
      have hhi1 : i ≤ h := by omega
      have hhj : h < j := by omega
      have hhn : h < n := by omega
      have han : m < n := by omega
      have hsc := HS.out.only ho
      have ch := (hNo h hhn).1
      have ca := (hNo m han).1
      have hcall := Lib.hid (fun k => sort_call hsc (HF.out m han) (HF.out h hhn) k)
      have hneg := cmpV_neg (tt T) (f m) (f h)
      obtain ⟨x, hx⟩ : ∃ x, f m = x := ⟨_, rfl⟩
      obtain ⟨y, hy⟩ : ∃ y, f h = y := ⟨_, rfl⟩
      have HX := Lib.hid hx
      have HY := Lib.hid hy
      rw [hx] at ca hcall hneg
      rw [hy] at ch hcall hneg
      obtain ⟨r, hr⟩ : ∃ r, cmpV (tt T) x y = r := ⟨_, rfl⟩
      rw [hr] at hcall hneg
      have HNEG := Lib.hid hneg
      clear hNo ho hsc hx hy hr hneg hh
      by_cases hr0 : r < 0
      · have hlt : Hid (∀ q, h ≤ q → q < m → tt T (f q) < tt T (f m)) := by
          show ∀ q, _
          intro q q1 q2
          have k1 := HR.out.left.fall (show a ≤ h by omega) q1 q2
          have k2 := HNEG.out.1 hr0
          rw [← HX.out, ← HY.out] at k2
          omega
        go_wp2_with fail
        go_quiet ((go_at_call 10; exact Calls.quiet_of (hcall.out _)))
        have e1 := Lib.hid (HNO.out.only ((Only.refl [] _).drewN nq) (by simp))
        have e2 := Lib.hid (HO.out.drewN nq)
        go_wp2
        go_roundw
        case rel => exact ⟨i, h, rfl, rfl, by omega, by omega, by omega, HLO.out, hlt.out, e1.out, e2.out⟩
        case measure => (simp [intOf]; try omega)
      · have hge : Hid (∀ q, a ≤ q → q < h + 1 → tt T (f m) ≤ tt T (f q)) := by
          show ∀ q, _
          intro q q1 q2
          have k1 := HR.out.left.fall q1 (show q ≤ h by omega) (show h < m by omega)
          have k2 : ¬ tt T y < tt T x := fun hx => hr0 (HNEG.out.2 hx)
          rw [← HX.out, ← HY.out] at k2
          omega
        have hdr : (!decide (r < 0)) = true := by simp; omega
        go_wp2_with fail
        go_quiet ((go_at_call 10; exact Calls.quiet_of (hcall.out _)))
        have e1 := Lib.hid (HNO.out.only ((Only.refl [] _).drewN nq) (by simp))
        have e2 := Lib.hid (HO.out.drewN nq)
        go_wp2
        go_roundw
        case rel => exact ⟨h + 1, j, by go_num, rfl, by omega, by omega, h3, hge.out, HHI.out, e1.out, e2.out⟩
        case measure => (simp [intOf]; try omega)
    · have hji : j = i := by omega
      subst hji
      have hsr : Hid (SR (tt T) (rotF f j m (m + 1)) a b) := by
        have hr := HR.out
        show SR _ _ _ _
        rw [HM.out] at hr ⊢
        exact merge_last hr h1 h3 HLO.out HHI.out
      have hre : Hid (Re f (rotF f j m (m + 1)) a b) := by
        show Re _ _ _ _
        rw [HM.out]
        exact (rotF_re f h3 (show m ≤ m + 1 by omega)).wide h1 (Nat.le_refl _)
      clear hNo ho h2 hij HLO HHI
      go_wp2_with fail
      go_loopw [17] (fun vk wr => ∃ k : Nat, j ≤ k ∧ k ≤ m ∧ vk = .int .i64 k ∧ Nums wr G n (rotF f k m (m + 1)) ∧ Only [G] w wr) (fun vk _ => (intOf vk).toNat)
      case atStart => exact ⟨m, h3, Nat.le_refl _, rfl, by rw [rotF_none]; exact HNO.out, HO.out⟩
      case round =>
        clear HNO HO
        obtain ⟨k, k1, k2, rfl, hN2, ho2⟩ := hrel
        by_cases hk : j < k
        · obtain ⟨p, hp⟩ : ∃ p, k = p + 1 := ⟨k - 1, by omega⟩
          have hp1 : (k : Int) - 1 = (p : Int) := by omega
          have hkn : k < n := by omega
          have hpn : p < n := by omega
          have ck := (hN2 k hkn).1
          have fk := (hN2 k hkn).2
          have cp := (hN2 p hpn).1
          have fp := (hN2 p hpn).2
          have hsw := swap_nums hN2 k p
          have hkp : ¬ k = p := by omega
          have hst : rotF f p m (m + 1) = swF (rotF f k m (m + 1)) k p := by rw [hp, rotF_back f m p (by omega)]
          rw [← hst] at hsw
          have e2 := Lib.hid (ho2.trans (swap_only wr G k p (.int .i64 (rotF f k m (m + 1) p)) (.int .i64 (rotF f k m (m + 1) k))) (fun z hz _ => hz))
          obtain ⟨x, hx⟩ : ∃ x, rotF f k m (m + 1) k = x := ⟨_, rfl⟩
          obtain ⟨y, hy⟩ : ∃ y, rotF f k m (m + 1) p = y := ⟨_, rfl⟩
          rw [hx] at ck hsw e2
          rw [hy] at cp hsw e2
          have e1 := Lib.hid hsw
          have hjp : j ≤ p := by omega
          have hpm : p ≤ m := by omega
          have HP := Lib.hid hp
          clear hN2 ho2 hst hx hy hsw hp
          go_wp2_with fail
          go_region
          go_wp2
          go_roundw
          case rel => exact ⟨p, hjp, hpm, by go_num, e1.out, e2.out⟩
          case measure => (simp [intOf]; have := HP.out; omega)
        · have hkj : k = j := by omega
          rw [hkj] at hN2
          go_wp2
          ((try simp only [Exit.inBlock, Exit.then]); refine bodyPost_ret (results_none rfl _ _ _) rfl ?_)
          exact ⟨rfl, _, hN2, hsr.out, hre.out, ho2⟩

end Go.Proofs.Ytnolckhideellaa
