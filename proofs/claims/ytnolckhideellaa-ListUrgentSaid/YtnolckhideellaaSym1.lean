/-
  The library's symMerge, where the first run holds one.
-/
import Derived.Test.YtnolckhideellaaStable2
namespace Go.Proofs.Ytnolckhideellaa
open Go.RowKit Go.Deep

/-- An explicit 'return' of a function without results. -/

theorem SR.fall {T : Int → Int} {f : Nat → Int} {a b x y : Nat} (h : SR T f a b) (h1 : a ≤ x) (h2 : x ≤ y) (h3 : y < b) : T (f y) ≤ T (f x) := by
  rcases Nat.lt_or_ge x y with hl | hl
  · have := h x y h1 hl h3
    unfold ltK at this; omega
  · rw [show x = y by omega]; exact Int.le_refl _

/-- The one in front has come as far as k. -/
theorem rotF_step (f : Nat → Int) (a k : Nat) (h : a ≤ k) : swF (rotF f a (a + 1) (k + 1)) k (k + 1) = rotF f a (a + 1) (k + 2) := by
  funext x
  unfold swF rotF
  repeat' split
  all_goals first | omega | (congr 1; omega) | (exfalso; omega)
theorem rotF_one (f : Nat → Int) (a : Nat) : rotF f a (a + 1) (a + 1) = f := by
  funext x
  unfold rotF
  repeat' split
  all_goals first | omega | (congr 1; omega) | (exfalso; omega)

set_option maxRecDepth 100000 in
set_option maxHeartbeats 8000000 in
theorem sym_front (G c n a m b tb A : Nat) (f T : Nat → Int) (w : World) (hm : m = a + 1) (hN : Nums w G n f) (hf : Tasks n f) (hr : Runs (tt T) f a m b) (hS : SortAt w G n tb A T) (hb : b ≤ n) (hn : n ≤ 1000) :
    Calls Try.prog 25 #[.slice (some ⟨G, 0, none⟩) n c, .int .i64 (a : Int), .int .i64 (m : Int), .int .i64 (b : Int), cvU tb] w fun e w' => e = .returned (.tuple #[]) ∧ ∃ g, Nums w' G n g ∧ SR (tt T) g a b ∧ Re f g a b ∧ Only [G] w w' := by
  unfold cvU
  have HF := Lib.hid hf
  have HS := Lib.hid hS
  have HR := Lib.hid hr
  have HN := Lib.hid hN
  have hmb := hr.mb
  have hd : (m : Int) - (a : Int) = 1 := by omega
  have HM := Lib.hid hm
  clear hf hS hr hN hm
  go_enter Try.func25, Try.ntmps25
  go_wp2_with fail
  go_loopw [10, 11] (fun vi vj wr => ∃ i j : Nat, vi = .int .i64 i ∧ vj = .int .i64 j ∧ m ≤ i ∧ i ≤ j ∧ j ≤ b ∧ (∀ x, m ≤ x → x < i → tt T (f a) < tt T (f x)) ∧ (∀ x, j ≤ x → x < b → tt T (f x) ≤ tt T (f a)) ∧ Nums wr G n f ∧ Only [G] w wr) (fun vi vj _ => (intOf vj).toNat - (intOf vi).toNat)
  case atStart => exact ⟨m, b, rfl, rfl, Nat.le_refl _, by omega, Nat.le_refl _, fun x h1 h2 => by omega, fun x h1 h2 => by omega, HN.out, Only.refl _ _⟩
  case round =>
    clear hd
    obtain ⟨wo, rfl⟩ : ∃ wo : World, wo = wr := ⟨_, rfl⟩
    obtain ⟨i, j, rfl, rfl, h1, h2, h3, hlo, hhi, hNo, ho⟩ := hrel
    have HLO := Lib.hid hlo
    have HHI := Lib.hid hhi
    have HNO := Lib.hid hNo
    have HO := Lib.hid ho
    clear hlo hhi
    have hma : a < m := by have := HM.out; omega
    by_cases hij : i < j
    · obtain ⟨h, hh⟩ : ∃ h, (i + j) / 2 = h := ⟨_, rfl⟩
      have hsh : ((i : Int) + (j : Int)) / 2 = (h : Int) := by omega
      have hhi1 : i ≤ h := by omega
      have hhj : h < j := by omega
      have hhn : h < n := by omega
      have han : a < n := by omega
      have hsc := HS.out.only ho
      have ch := (hNo h hhn).1
      have ca := (hNo a han).1
      have hcall := Lib.hid (fun k => sort_call hsc (HF.out h hhn) (HF.out a han) k)
      have hneg := cmpV_neg (tt T) (f h) (f a)
      obtain ⟨x, hx⟩ : ∃ x, f h = x := ⟨_, rfl⟩
      obtain ⟨y, hy⟩ : ∃ y, f a = y := ⟨_, rfl⟩
      have HX := Lib.hid hx
      have HY := Lib.hid hy
      rw [hx] at ch hcall hneg
      rw [hy] at ca hcall hneg
      obtain ⟨r, hr⟩ : ∃ r, cmpV (tt T) x y = r := ⟨_, rfl⟩
      rw [hr] at hcall hneg
      have HNEG := Lib.hid hneg
      clear hNo ho hsc hx hy hr hneg hh
      by_cases hr0 : r < 0
      · have hlt : Hid (∀ q, m ≤ q → q < h + 1 → tt T (f a) < tt T (f q)) := by
          show ∀ q, _
          intro q q1 q2
          have k1 := HR.out.right.fall q1 (show q ≤ h by omega) (show h < b by omega)
          have k2 := HNEG.out.1 hr0
          rw [← HX.out, ← HY.out] at k2
          omega
        go_wp2_with fail
        go_quiet ((go_at_call 10; exact Calls.quiet_of (hcall.out _)))
        have e1 := Lib.hid (HNO.out.only ((Only.refl [] _).drewN nq) (by simp))
        have e2 := Lib.hid (HO.out.drewN nq)
        go_wp2
        go_roundw
        case rel => exact ⟨h + 1, j, by go_num, rfl, by omega, by omega, h3, hlt.out, HHI.out, e1.out, e2.out⟩
        case measure => (simp [intOf]; try omega)
      · have hge : Hid (∀ q, h ≤ q → q < b → tt T (f q) ≤ tt T (f a)) := by
          show ∀ q, _
          intro q q1 q2
          have k1 := HR.out.right.fall (show m ≤ h by omega) q1 q2
          have k2 : ¬ tt T y < tt T x := fun hx => hr0 (HNEG.out.2 hx)
          rw [← HX.out, ← HY.out] at k2
          omega
        go_wp2_with fail
        go_quiet ((go_at_call 10; exact Calls.quiet_of (hcall.out _)))
        have e1 := Lib.hid (HNO.out.only ((Only.refl [] _).drewN nq) (by simp))
        have e2 := Lib.hid (HO.out.drewN nq)
        go_wp2
        go_roundw
        case rel => exact ⟨i, h, rfl, rfl, by omega, by omega, by omega, HLO.out, hge.out, e1.out, e2.out⟩
        case measure => (simp [intOf]; try omega)
    · have hji : j = i := by omega
      subst hji
      have hsr : Hid (SR (tt T) (rotF f a (a + 1) j) a b) := by
        have hr := HR.out
        have hl := HLO.out
        rw [HM.out] at hr hl h1
        exact merge_one hr h1 h3 hl HHI.out
      have hre : Hid (Re f (rotF f a (a + 1) j) a b) := by
        show Re _ _ _ _
        have := HM.out
        exact (rotF_re f (show a ≤ a + 1 by omega) (show a + 1 ≤ j by omega)).wide (Nat.le_refl _) h3
      have hj1 : a + 1 ≤ j := by have := HM.out; omega
      clear hNo ho h1 h2 hij HLO HHI
      go_wp2_with fail
      go_loopw [13] (fun vk wr => ∃ k : Nat, a ≤ k ∧ k + 1 ≤ j ∧ vk = .int .i64 k ∧ Nums wr G n (rotF f a (a + 1) (k + 1)) ∧ Only [G] w wr) (fun vk _ => j - (intOf vk).toNat)
      case atStart => exact ⟨a, Nat.le_refl _, hj1, rfl, by rw [rotF_one]; exact HNO.out, HO.out⟩
      case round =>
        clear HNO HO
        obtain ⟨k, k1, k2, rfl, hN2, ho2⟩ := hrel
        by_cases hk : k + 1 < j
        · obtain ⟨p, hp⟩ : ∃ p, k + 1 = p := ⟨_, rfl⟩
          have hp1 : (k : Int) + 1 = (p : Int) := by omega
          obtain ⟨z, hz⟩ : ∃ z : Nat, j - 1 = z := ⟨_, rfl⟩
          have hz1 : (j : Int) - 1 = (z : Int) := by omega
          have hkz : k < z := by omega
          have hkn : k < n := by omega
          have hpn : p < n := by omega
          have ck := (hN2 k hkn).1
          have fk := (hN2 k hkn).2
          have cp := (hN2 p hpn).1
          have fp := (hN2 p hpn).2
          have hsw := swap_nums hN2 k p
          have hkp : ¬ k = p := by omega
          have hst : rotF f a (a + 1) (p + 1) = swF (rotF f a (a + 1) (k + 1)) k p := by rw [← hp, rotF_step f a k k1]
          rw [← hst] at hsw
          have e2 := Lib.hid (ho2.trans (swap_only wr G k p (.int .i64 (rotF f a (a + 1) (k + 1) p)) (.int .i64 (rotF f a (a + 1) (k + 1) k))) (fun z hz _ => hz))
          obtain ⟨x, hx⟩ : ∃ x, rotF f a (a + 1) (k + 1) k = x := ⟨_, rfl⟩
          obtain ⟨y, hy⟩ : ∃ y, rotF f a (a + 1) (k + 1) p = y := ⟨_, rfl⟩
          rw [hx] at ck hsw e2
          rw [hy] at cp hsw e2
          have e1 := Lib.hid hsw
          clear hN2 ho2 hst hx hy hsw hp hz
          go_wp2_with fail
          go_region
          go_wp2
          go_roundw
          case rel => exact ⟨p, by omega, by omega, by go_num, e1.out, e2.out⟩
          case measure => (simp [intOf]; try omega)
        · have hkj : k + 1 = j := by omega
          rw [hkj] at hN2
          have hge : (j : Int) - 1 ≤ (k : Int) := by omega
          go_wp2
          ((try simp only [Exit.inBlock, Exit.then]); refine bodyPost_ret (results_none rfl _ _ _) rfl ?_)
          exact ⟨rfl, _, hN2, hsr.out, hre.out, ho2⟩

end Go.Proofs.Ytnolckhideellaa
