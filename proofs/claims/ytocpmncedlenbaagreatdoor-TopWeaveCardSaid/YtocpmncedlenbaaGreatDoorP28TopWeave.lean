/-
  The library's symMerge, where the first run holds one.
  The library's symMerge, where the second run holds one.
  The library's symMerge.
-/
import Derived.Test.YtocpmncedlenbaaGreatDoorP27TopWeave
import Derived.Deep.CutBlock
namespace Go.Proofs.YtocpmncedlenbaaGreatDoor
open Go.RowKit Go.Deep

/-- An explicit 'return' of a function without results. -/

theorem SR.fall {T : Int → Int} {f : Nat → Int} {a b x y : Nat} (h : SR T f a b) (h1 : a ≤ x) (h2 : x ≤ y) (h3 : y < b) : T (f y) ≤ T (f x) := by
  rcases Nat.lt_or_ge x y with hl | hl
  · have := h x y h1 hl h3
    unfold ltK at this; omega
  · rw [show x = y by omega]; exact Int.le_refl _

/-- The one in front has come as far as k. -/
theorem rotF_step (f : Nat → Int) (a k : Nat) (h : a ≤ k) : swF (rotF f a (a + 1) (k + 1)) k (k + 1) = rotF f a (a + 1) (k + 2) := by
  funext x
  unfold swF rotF
  repeat' split
  all_goals first | omega | (congr 1; omega) | (exfalso; omega)
theorem rotF_one (f : Nat → Int) (a : Nat) : rotF f a (a + 1) (a + 1) = f := by
  funext x
  unfold rotF
  repeat' split
  all_goals first | omega | (congr 1; omega) | (exfalso; omega)

set_option maxRecDepth 100000 in
set_option maxHeartbeats 8000000 in
theorem sym_front (G c n a m b tb A : Nat) (f T : Nat → Int) (w : World) (hm : m = a + 1) (hN : Nums w G n f) (hf : Tasks n f) (hr : Runs (tt T) f a m b) (hS : SortAt w G n tb A T) (hb : b ≤ n) (hn : n ≤ 1000) :
    Calls Tryz.prog 162 #[.slice (some ⟨G, 0, none⟩) n c, .int .i64 (a : Int), .int .i64 (m : Int), .int .i64 (b : Int), cvU tb] w fun e w' => e = .returned (.tuple #[]) ∧ ∃ g, Nums w' G n g ∧ SR (tt T) g a b ∧ Re f g a b ∧ Only [G] w w' := by
  unfold cvU
  have HF := Lib.hid hf
  have HS := Lib.hid hS
  have HR := Lib.hid hr
  have HN := Lib.hid hN
  have hmb := hr.mb
  have hd : (m : Int) - (a : Int) = 1 := by omega
  have HM := Lib.hid hm
  clear hf hS hr hN hm
  go_enter Tryz.func162, Tryz.ntmps162
  go_wp2_with fail
  go_loopw [10, 11] (fun vi vj wr => ∃ i j : Nat, vi = .int .i64 i ∧ vj = .int .i64 j ∧ m ≤ i ∧ i ≤ j ∧ j ≤ b ∧ (∀ x, m ≤ x → x < i → tt T (f a) < tt T (f x)) ∧ (∀ x, j ≤ x → x < b → tt T (f x) ≤ tt T (f a)) ∧ Nums wr G n f ∧ Only [G] w wr) (fun vi vj _ => (intOf vj).toNat - (intOf vi).toNat)
  case atStart => exact ⟨m, b, rfl, rfl, Nat.le_refl _, by omega, Nat.le_refl _, fun x h1 h2 => by omega, fun x h1 h2 => by omega, HN.out, Only.refl _ _⟩
  case round =>
    clear hd
    obtain ⟨wo, rfl⟩ : ∃ wo : World, wo = wr := ⟨_, rfl⟩
    obtain ⟨i, j, rfl, rfl, h1, h2, h3, hlo, hhi, hNo, ho⟩ := hrel
    have HLO := Lib.hid hlo
    have HHI := Lib.hid hhi
    have HNO := Lib.hid hNo
    have HO := Lib.hid ho
    clear hlo hhi
    have hma : a < m := by have := HM.out; omega
    by_cases hij : i < j
    · obtain ⟨h, hh⟩ : ∃ h, (i + j) / 2 = h := ⟨_, rfl⟩
      have hsh : ((i : Int) + (j : Int)) / 2 = (h : Int) := by omega
      have hhi1 : i ≤ h := by omega
      have hhj : h < j := by omega
      have hhn : h < n := by omega
      have han : a < n := by omega
      have hsc := HS.out.only ho
      have ch := (hNo h hhn).1
      have ca := (hNo a han).1
      have hcall := Lib.hid (fun k => sort_call hsc (HF.out h hhn) (HF.out a han) k)
      have hneg := cmpV_neg (tt T) (f h) (f a)
      obtain ⟨x, hx⟩ : ∃ x, f h = x := ⟨_, rfl⟩
      obtain ⟨y, hy⟩ : ∃ y, f a = y := ⟨_, rfl⟩
      have HX := Lib.hid hx
      have HY := Lib.hid hy
      rw [hx] at ch hcall hneg
      rw [hy] at ca hcall hneg
      obtain ⟨r, hr⟩ : ∃ r, cmpV (tt T) x y = r := ⟨_, rfl⟩
      rw [hr] at hcall hneg
      have HNEG := Lib.hid hneg
      clear hNo ho hsc hx hy hr hneg hh
      by_cases hr0 : r < 0
      · have hlt : Hid (∀ q, m ≤ q → q < h + 1 → tt T (f a) < tt T (f q)) := by
          show ∀ q, _
          intro q q1 q2
          have k1 := HR.out.right.fall q1 (show q ≤ h by omega) (show h < b by omega)
          have k2 := HNEG.out.1 hr0
          rw [← HX.out, ← HY.out] at k2
          omega
        go_wp2_with fail
        go_quiet ((go_at_call 56; exact Calls.quiet_of (hcall.out _)))
        have e1 := Lib.hid (HNO.out.only ((Only.refl [] _).drewN nq) (by simp))
        have e2 := Lib.hid (HO.out.drewN nq)
        go_wp2
        go_roundw
        case rel => exact ⟨h + 1, j, by go_num, rfl, by omega, by omega, h3, hlt.out, HHI.out, e1.out, e2.out⟩
        case measure => (simp [intOf]; try omega)
      · have hge : Hid (∀ q, h ≤ q → q < b → tt T (f q) ≤ tt T (f a)) := by
          show ∀ q, _
          intro q q1 q2
          have k1 := HR.out.right.fall (show m ≤ h by omega) q1 q2
          have k2 : ¬ tt T y < tt T x := fun hx => hr0 (HNEG.out.2 hx)
          rw [← HX.out, ← HY.out] at k2
          omega
        go_wp2_with fail
        go_quiet ((go_at_call 56; exact Calls.quiet_of (hcall.out _)))
        have e1 := Lib.hid (HNO.out.only ((Only.refl [] _).drewN nq) (by simp))
        have e2 := Lib.hid (HO.out.drewN nq)
        go_wp2
        go_roundw
        case rel => exact ⟨i, h, rfl, rfl, by omega, by omega, by omega, HLO.out, hge.out, e1.out, e2.out⟩
        case measure => (simp [intOf]; try omega)
    · have hji : j = i := by omega
      subst hji
      have hsr : Hid (SR (tt T) (rotF f a (a + 1) j) a b) := by
        have hr := HR.out
        have hl := HLO.out
        rw [HM.out] at hr hl h1
        exact merge_one hr h1 h3 hl HHI.out
      have hre : Hid (Re f (rotF f a (a + 1) j) a b) := by
        show Re _ _ _ _
        have := HM.out
        exact (rotF_re f (show a ≤ a + 1 by omega) (show a + 1 ≤ j by omega)).wide (Nat.le_refl _) h3
      have hj1 : a + 1 ≤ j := by have := HM.out; omega
      clear hNo ho h1 h2 hij HLO HHI
      go_wp2_with fail
      go_loopw [13] (fun vk wr => ∃ k : Nat, a ≤ k ∧ k + 1 ≤ j ∧ vk = .int .i64 k ∧ Nums wr G n (rotF f a (a + 1) (k + 1)) ∧ Only [G] w wr) (fun vk _ => j - (intOf vk).toNat)
      case atStart => exact ⟨a, Nat.le_refl _, hj1, rfl, by rw [rotF_one]; exact HNO.out, HO.out⟩
      case round =>
        clear HNO HO
        obtain ⟨k, k1, k2, rfl, hN2, ho2⟩ := hrel
        by_cases hk : k + 1 < j
        · obtain ⟨p, hp⟩ : ∃ p, k + 1 = p := ⟨_, rfl⟩
          have hp1 : (k : Int) + 1 = (p : Int) := by omega
          obtain ⟨z, hz⟩ : ∃ z : Nat, j - 1 = z := ⟨_, rfl⟩
          have hz1 : (j : Int) - 1 = (z : Int) := by omega
          have hkz : k < z := by omega
          have hkn : k < n := by omega
          have hpn : p < n := by omega
          have ck := (hN2 k hkn).1
          have fk := (hN2 k hkn).2
          have cp := (hN2 p hpn).1
          have fp := (hN2 p hpn).2
          have hsw := swap_nums hN2 k p
          have hkp : ¬ k = p := by omega
          have hst : rotF f a (a + 1) (p + 1) = swF (rotF f a (a + 1) (k + 1)) k p := by rw [← hp, rotF_step f a k k1]
          rw [← hst] at hsw
          have e2 := Lib.hid (ho2.trans (swap_only wr G k p (.int .i64 (rotF f a (a + 1) (k + 1) p)) (.int .i64 (rotF f a (a + 1) (k + 1) k))) (fun z hz _ => hz))
          obtain ⟨x, hx⟩ : ∃ x, rotF f a (a + 1) (k + 1) k = x := ⟨_, rfl⟩
          obtain ⟨y, hy⟩ : ∃ y, rotF f a (a + 1) (k + 1) p = y := ⟨_, rfl⟩
          rw [hx] at ck hsw e2
          rw [hy] at cp hsw e2
          have e1 := Lib.hid hsw
          clear hN2 ho2 hst hx hy hsw hp hz
          go_wp2_with fail
          go_region
          go_wp2
          go_roundw
          case rel => exact ⟨p, by omega, by omega, by go_num, e1.out, e2.out⟩
          case measure => (simp [intOf]; try omega)
        · have hkj : k + 1 = j := by omega
          rw [hkj] at hN2
          have hge : (j : Int) - 1 ≤ (k : Int) := by omega
          go_wp2
          ((try simp only [Exit.inBlock, Exit.then]); refine bodyPost_ret (results_none rfl _ _ _) rfl ?_)
          exact ⟨rfl, _, hN2, hsr.out, hre.out, ho2⟩

end Go.Proofs.YtocpmncedlenbaaGreatDoor

namespace Go.Proofs.YtocpmncedlenbaaGreatDoor
open Go.RowKit Go.Deep

theorem rotF_back (f : Nat → Int) (m k : Nat) (h : k + 1 ≤ m) : swF (rotF f (k + 1) m (m + 1)) (k + 1) k = rotF f k m (m + 1) := by
  funext x
  unfold swF rotF
  repeat' split
  all_goals first | omega | (congr 1; omega) | (exfalso; omega)
theorem rotF_none (f : Nat → Int) (m : Nat) : rotF f m m (m + 1) = f := by
  funext x
  unfold rotF
  repeat' split
  all_goals first | omega | (congr 1; omega) | (exfalso; omega)

set_option maxRecDepth 100000 in
set_option maxHeartbeats 8000000 in
theorem sym_back (G c n a m b tb A : Nat) (f T : Nat → Int) (w : World) (hm : b = m + 1) (hma : a + 1 < m) (hN : Nums w G n f) (hf : Tasks n f) (hr : Runs (tt T) f a m b) (hS : SortAt w G n tb A T) (hb : b ≤ n) (hn : n ≤ 1000) :
    Calls Tryz.prog 162 #[.slice (some ⟨G, 0, none⟩) n c, .int .i64 (a : Int), .int .i64 (m : Int), .int .i64 (b : Int), cvU tb] w fun e w' => e = .returned (.tuple #[]) ∧ ∃ g, Nums w' G n g ∧ SR (tt T) g a b ∧ Re f g a b ∧ Only [G] w w' := by
  unfold cvU
  have HF := Lib.hid hf
  have HS := Lib.hid hS
  have HR := Lib.hid hr
  have HN := Lib.hid hN
  have hmb := hr.mb
  obtain ⟨d, hd1⟩ : ∃ d, m - a = d := ⟨_, rfl⟩
  have hd : (m : Int) - (a : Int) = (d : Int) := by omega
  have hd2 : ((d : Int) == 1) = false := by simp; omega
  have hbm : (b : Int) - (m : Int) = 1 := by omega
  clear hd1
  have HM := Lib.hid hm
  clear hf hS hr hN hm
  go_enter Tryz.func162, Tryz.ntmps162
  go_wp2_with fail
  go_loopw [14, 15] (fun vi vj wr => ∃ i j : Nat, vi = .int .i64 i ∧ vj = .int .i64 j ∧ a ≤ i ∧ i ≤ j ∧ j ≤ m ∧ (∀ x, a ≤ x → x < i → tt T (f m) ≤ tt T (f x)) ∧ (∀ x, j ≤ x → x < m → tt T (f x) < tt T (f m)) ∧ Nums wr G n f ∧ Only [G] w wr) (fun vi vj _ => (intOf vj).toNat - (intOf vi).toNat)
  case atStart => exact ⟨a, m, rfl, rfl, Nat.le_refl _, by omega, Nat.le_refl _, fun x h1 h2 => by omega, fun x h1 h2 => by omega, HN.out, Only.refl _ _⟩
  case round =>
    clear hd hd2 hbm
    obtain ⟨wo, rfl⟩ : ∃ wo : World, wo = wr := ⟨_, rfl⟩
    obtain ⟨i, j, rfl, rfl, h1, h2, h3, hlo, hhi, hNo, ho⟩ := hrel
    have HLO := Lib.hid hlo
    have HHI := Lib.hid hhi
    have HNO := Lib.hid hNo
    have HO := Lib.hid ho
    clear hlo hhi
    by_cases hij : i < j
    · obtain ⟨h, hh⟩ : ∃ h, (i + j) / 2 = h := ⟨_, rfl⟩
      have hsh : ((i : Int) + (j : Int)) / 2 = (h : Int) := by omega
      have hhi1 : i ≤ h := by omega
      have hhj : h < j := by omega
      have hhn : h < n := by omega
      have han : m < n := by omega
      have hsc := HS.out.only ho
      have ch := (hNo h hhn).1
      have ca := (hNo m han).1
      have hcall := Lib.hid (fun k => sort_call hsc (HF.out m han) (HF.out h hhn) k)
      have hneg := cmpV_neg (tt T) (f m) (f h)
      obtain ⟨x, hx⟩ : ∃ x, f m = x := ⟨_, rfl⟩
      obtain ⟨y, hy⟩ : ∃ y, f h = y := ⟨_, rfl⟩
      have HX := Lib.hid hx
      have HY := Lib.hid hy
      rw [hx] at ca hcall hneg
      rw [hy] at ch hcall hneg
      obtain ⟨r, hr⟩ : ∃ r, cmpV (tt T) x y = r := ⟨_, rfl⟩
      rw [hr] at hcall hneg
      have HNEG := Lib.hid hneg
      clear hNo ho hsc hx hy hr hneg hh
      by_cases hr0 : r < 0
      · have hlt : Hid (∀ q, h ≤ q → q < m → tt T (f q) < tt T (f m)) := by
          show ∀ q, _
          intro q q1 q2
          have k1 := HR.out.left.fall (show a ≤ h by omega) q1 q2
          have k2 := HNEG.out.1 hr0
          rw [← HX.out, ← HY.out] at k2
          omega
        go_wp2_with fail
        go_quiet ((go_at_call 56; exact Calls.quiet_of (hcall.out _)))
        have e1 := Lib.hid (HNO.out.only ((Only.refl [] _).drewN nq) (by simp))
        have e2 := Lib.hid (HO.out.drewN nq)
        go_wp2
        go_roundw
        case rel => exact ⟨i, h, rfl, rfl, by omega, by omega, by omega, HLO.out, hlt.out, e1.out, e2.out⟩
        case measure => (simp [intOf]; try omega)
      · have hge : Hid (∀ q, a ≤ q → q < h + 1 → tt T (f m) ≤ tt T (f q)) := by
          show ∀ q, _
          intro q q1 q2
          have k1 := HR.out.left.fall q1 (show q ≤ h by omega) (show h < m by omega)
          have k2 : ¬ tt T y < tt T x := fun hx => hr0 (HNEG.out.2 hx)
          rw [← HX.out, ← HY.out] at k2
          omega
        have hdr : (!decide (r < 0)) = true := by simp; omega
        go_wp2_with fail
        go_quiet ((go_at_call 56; exact Calls.quiet_of (hcall.out _)))
        have e1 := Lib.hid (HNO.out.only ((Only.refl [] _).drewN nq) (by simp))
        have e2 := Lib.hid (HO.out.drewN nq)
        go_wp2
        go_roundw
        case rel => exact ⟨h + 1, j, by go_num, rfl, by omega, by omega, h3, hge.out, HHI.out, e1.out, e2.out⟩
        case measure => (simp [intOf]; try omega)
    · have hji : j = i := by omega
      subst hji
      have hsr : Hid (SR (tt T) (rotF f j m (m + 1)) a b) := by
        have hr := HR.out
        show SR _ _ _ _
        rw [HM.out] at hr ⊢
        exact merge_last hr h1 h3 HLO.out HHI.out
      have hre : Hid (Re f (rotF f j m (m + 1)) a b) := by
        show Re _ _ _ _
        rw [HM.out]
        exact (rotF_re f h3 (show m ≤ m + 1 by omega)).wide h1 (Nat.le_refl _)
      clear hNo ho h2 hij HLO HHI
      go_wp2_with fail
      go_loopw [17] (fun vk wr => ∃ k : Nat, j ≤ k ∧ k ≤ m ∧ vk = .int .i64 k ∧ Nums wr G n (rotF f k m (m + 1)) ∧ Only [G] w wr) (fun vk _ => (intOf vk).toNat)
      case atStart => exact ⟨m, h3, Nat.le_refl _, rfl, by rw [rotF_none]; exact HNO.out, HO.out⟩
      case round =>
        clear HNO HO
        obtain ⟨k, k1, k2, rfl, hN2, ho2⟩ := hrel
        by_cases hk : j < k
        · obtain ⟨p, hp⟩ : ∃ p, k = p + 1 := ⟨k - 1, by omega⟩
          have hp1 : (k : Int) - 1 = (p : Int) := by omega
          have hkn : k < n := by omega
          have hpn : p < n := by omega
          have ck := (hN2 k hkn).1
          have fk := (hN2 k hkn).2
          have cp := (hN2 p hpn).1
          have fp := (hN2 p hpn).2
          have hsw := swap_nums hN2 k p
          have hkp : ¬ k = p := by omega
          have hst : rotF f p m (m + 1) = swF (rotF f k m (m + 1)) k p := by rw [hp, rotF_back f m p (by omega)]
          rw [← hst] at hsw
          have e2 := Lib.hid (ho2.trans (swap_only wr G k p (.int .i64 (rotF f k m (m + 1) p)) (.int .i64 (rotF f k m (m + 1) k))) (fun z hz _ => hz))
          obtain ⟨x, hx⟩ : ∃ x, rotF f k m (m + 1) k = x := ⟨_, rfl⟩
          obtain ⟨y, hy⟩ : ∃ y, rotF f k m (m + 1) p = y := ⟨_, rfl⟩
          rw [hx] at ck hsw e2
          rw [hy] at cp hsw e2
          have e1 := Lib.hid hsw
          have hjp : j ≤ p := by omega
          have hpm : p ≤ m := by omega
          have HP := Lib.hid hp
          clear hN2 ho2 hst hx hy hsw hp
          go_wp2_with fail
          go_region
          go_wp2
          go_roundw
          case rel => exact ⟨p, hjp, hpm, by go_num, e1.out, e2.out⟩
          case measure => (simp [intOf]; have := HP.out; omega)
        · have hkj : k = j := by omega
          rw [hkj] at hN2
          go_wp2
          ((try simp only [Exit.inBlock, Exit.then]); refine bodyPost_ret (results_none rfl _ _ _) rfl ?_)
          exact ⟨rfl, _, hN2, hsr.out, hre.out, ho2⟩

end Go.Proofs.YtocpmncedlenbaaGreatDoor

namespace Go.Proofs.YtocpmncedlenbaaGreatDoor
open Go.RowKit Go.Deep

theorem rotF_id (f : Nat → Int) {s m e : Nat} (_h1 : s ≤ m) (_h2 : m ≤ e) (h : ¬ (s < m ∧ m < e)) : rotF f s m e = f := by
  funext x
  unfold rotF
  repeat' split
  all_goals first | omega | (congr 1; omega) | (exfalso; omega)

/-- Where the search stands. -/
structure Seek (T : Int → Int) (f : Nat → Int) (N lo hi s r : Nat) : Prop where
  los : lo ≤ s
  sr : s ≤ r
  rhi : r ≤ hi
  low : lo < s → T (f (N - s)) ≤ T (f (s - 1))
  high : r < hi → T (f r) < T (f (N - 1 - r))

theorem Seek.cut {T : Int → Int} {f : Nat → Int} {a m b mid N lo hi s : Nat} (h : Seek T f N lo hi s s) (hmid : (a + b) / 2 = mid) (hN : mid + m = N) (hal : a ≤ lo) (hhm : hi ≤ m) (hn1 : hi + m ≤ N) (hn2 : N ≤ lo + b) (hlo : lo = a ∨ N = lo + b) (hhi : hi = m ∨ N = hi + m) :
    CutAt T f a m b s (N - s) := by
  have h1 := h.los
  have h2 := h.rhi
  refine ⟨by omega, by omega, by omega, by omega, by omega, fun k1 k2 => ?_, fun k1 k2 => ?_⟩
  · exact h.low (by omega)
  · have := h.high (by omega)
    rw [show N - s - 1 = N - 1 - s by omega]
    exact this

theorem sym_join {T : Int → Int} {f g g2 : Nat → Int} {a m b s e : Nat} (h : Runs T f a m b) (c : CutAt T f a m b s e) (h1 : SR T g a ((a + b) / 2)) (k1 : Re (rotF f s m e) g a ((a + b) / 2)) (h2 : SR T g2 ((a + b) / 2) b) (k2 : Re g g2 ((a + b) / 2) b) :
    SR T g2 a b ∧ Re f g2 a b := by
  have ham := h.am
  have hmb := h.mb
  have q1 := c.lo
  have q2 := c.sm
  have q3 := c.me
  have q4 := c.eb
  refine ⟨SR.join (m := (a + b) / 2) (h1.congr fun i _ hi => k2.1 i (.inl hi)) h2 (fun i j i1 i2 j1 j2 => ?_), ?_⟩
  · rw [k2.1 i (.inl i2)]
    obtain ⟨i', a1, a2, a3⟩ := k1.2.1 i i1 i2
    obtain ⟨j', b1, b2, b3⟩ := k2.2.1 j j1 j2
    rw [a3, b3, k1.1 j' (.inr b1)]
    exact cut_apart h c i' j' a1 a2 b1 b2
  · exact (((rotF_re f q2 q3).wide q1 q4).trans (k1.wide (Nat.le_refl _) (by omega))).trans (k2.wide (by omega) (Nat.le_refl _))

/-- Where the first half needs no merge. -/
theorem cut_first {T : Int → Int} {f : Nat → Int} {a m b s e : Nat} (h : Runs T f a m b) (c : CutAt T f a m b s e) (hn : ¬ (a < s ∧ s < (a + b) / 2)) : SR T (rotF f s m e) a ((a + b) / 2) := by
  obtain ⟨h1, h2, _⟩ := cut_left h c
  have q1 := c.lo
  by_cases hx : a < s
  · exact h1.sub (Nat.le_refl _) (by omega)
  · obtain rfl : s = a := by omega
    exact h2
theorem cut_second {T : Int → Int} {f : Nat → Int} {a m b s e : Nat} (h : Runs T f a m b) (c : CutAt T f a m b s e) (hn : ¬ ((a + b) / 2 < e ∧ e < b)) : SR T (rotF f s m e) ((a + b) / 2) b := by
  obtain ⟨h1, h2, _⟩ := cut_right h c
  have q2 := c.sm
  have q5 := c.sum
  by_cases hx : (a + b) / 2 < e
  · exact h1.sub (Nat.le_refl _) (by omega)
  · exact h2.sub (by omega) (Nat.le_refl _)

set_option maxRecDepth 100000 in
set_option maxHeartbeats 8000000 in
theorem sym_gen (G c n a m b tb A : Nat) (f T : Nat → Int) (w : World) (ham : a + 1 < m) (hmb : m + 1 < b) (hN : Nums w G n f) (hf : Tasks n f) (hr : Runs (tt T) f a m b) (hS : SortAt w G n tb A T) (hb : b ≤ n) (hn : n ≤ 1000)
    (ih : ∀ (a' m' b' : Nat) (f' : Nat → Int) (w' : World), b' - a' < b - a → b' ≤ n → Nums w' G n f' → Tasks n f' → Runs (tt T) f' a' m' b' → SortAt w' G n tb A T →
      Calls Tryz.prog 162 #[.slice (some ⟨G, 0, none⟩) n c, .int .i64 (a' : Int), .int .i64 (m' : Int), .int .i64 (b' : Int), cvU tb] w' fun e w'' => e = .returned (.tuple #[]) ∧ ∃ g, Nums w'' G n g ∧ SR (tt T) g a' b' ∧ Re f' g a' b' ∧ Only [G] w' w'') :
    Calls Tryz.prog 162 #[.slice (some ⟨G, 0, none⟩) n c, .int .i64 (a : Int), .int .i64 (m : Int), .int .i64 (b : Int), cvU tb] w fun e w' => e = .returned (.tuple #[]) ∧ ∃ g, Nums w' G n g ∧ SR (tt T) g a b ∧ Re f g a b ∧ Only [G] w w' := by
  have hrot := Lib.hid (fun s e f' w' hN h1 h2 h3 => rotate G c n s m e f' (cvU tb) w' hN h1 h2 h3 hn)
  unfold cvU at ih hrot ⊢
  have IH := Lib.hid ih
  have HF := Lib.hid hf
  have HS := Lib.hid hS
  have HR := Lib.hid hr
  have HN := Lib.hid hN
  obtain ⟨d, hd1⟩ : ∃ d, m - a = d := ⟨_, rfl⟩
  have hd : (m : Int) - (a : Int) = (d : Int) := by omega
  have hd2 : ((d : Int) == 1) = false := by simp; omega
  obtain ⟨d', hd3⟩ : ∃ d', b - m = d' := ⟨_, rfl⟩
  have hd4 : (b : Int) - (m : Int) = (d' : Int) := by omega
  have hd5 : ((d' : Int) == 1) = false := by simp; omega
  obtain ⟨mid, hmid⟩ : ∃ mid, (a + b) / 2 = mid := ⟨_, rfl⟩
  have hmid2 : ((a : Int) + (b : Int)) / 2 = (mid : Int) := by omega
  obtain ⟨N, hNN⟩ : ∃ N, mid + m = N := ⟨_, rfl⟩
  have hNN2 : (mid : Int) + (m : Int) = (N : Int) := by omega
  have HMID := Lib.hid hmid
  have HNN := Lib.hid hNN
  have hamid : a < mid := by omega
  have hmidb : mid < b := by omega
  obtain ⟨lo, hi, hal, hlh, hhm, hn1, hn2, hlo, hhi, hif⟩ : ∃ lo hi : Nat, a ≤ lo ∧ lo ≤ hi ∧ hi ≤ m ∧ hi + m ≤ N ∧ N ≤ lo + b ∧ (lo = a ∨ N = lo + b) ∧ (hi = m ∨ N = hi + m) ∧ ((mid < m ∧ (N : Int) - (b : Int) = (lo : Int) ∧ hi = mid) ∨ (m ≤ mid ∧ lo = a ∧ hi = m)) := by
    by_cases h : mid < m
    · exact ⟨N - b, mid, by omega, by omega, by omega, by omega, by omega, by omega, by omega, .inl ⟨h, by omega, rfl⟩⟩
    · exact ⟨a, m, by omega, by omega, by omega, by omega, by omega, by omega, by omega, .inr ⟨by omega, rfl, rfl⟩⟩
  have HCUT := Lib.hid (fun s (h : Seek (tt T) f N lo hi s s) => h.cut hmid hNN hal hhm hn1 hn2 hlo hhi)
  obtain ⟨P, hP⟩ : ∃ P, N - 1 = P := ⟨_, rfl⟩
  have hP2 : (N : Int) - 1 = (P : Int) := by omega
  have HIF := Lib.hid hif
  clear ih hf hS hr hN hd1 hd3 hmid hNN hlo hhi hif
  go_enter Tryz.func162, Tryz.ntmps162
  go_upto_if 140 with (fail)
  go_cut [20, 21] (fun vs vr wx => vs = .int .i64 (lo : Int) ∧ vr = .int .i64 (hi : Int) ∧ w = wx)
  case first =>
    as_aux_lemma =>
      rcases HIF.out with ⟨q1, q2, rfl⟩ | ⟨q1, rfl, rfl⟩
      · go_wp2
        go_meet
        exact ⟨rfl, rfl, rfl⟩
      · go_wp2
        go_meet
        exact ⟨rfl, rfl, rfl⟩
  case rest =>
  obtain ⟨rfl, rfl, rfl⟩ := hcut
  go_wp2_with fail
  go_loopw [20, 21] (fun vs vr wr => ∃ s r : Nat, vs = .int .i64 s ∧ vr = .int .i64 r ∧ Seek (tt T) f N lo hi s r ∧ Nums wr G n f ∧ Only [G] w wr) (fun vs vr _ => (intOf vr).toNat - (intOf vs).toNat)
  case atStart => exact ⟨lo, hi, rfl, rfl, ⟨Nat.le_refl _, hlh, Nat.le_refl _, fun h => by omega, fun h => by omega⟩, HN.out, Only.refl _ _⟩
  case round =>
    obtain ⟨wo, rfl⟩ : ∃ wo : World, wo = wr := ⟨_, rfl⟩
    obtain ⟨s, r, rfl, rfl, hsk, hNo, ho⟩ := hrel
    have h1 := hsk.los
    have h2 := hsk.sr
    have h3 := hsk.rhi
    have HSK := Lib.hid hsk
    have HNO := Lib.hid hNo
    have HO := Lib.hid ho
    clear hsk hd hd2 hd4 hd5 hmid2 hNN2
    by_cases hij : s < r
    · as_aux_lemma =>
        obtain ⟨h, hh⟩ : ∃ h, (s + r) / 2 = h := ⟨_, rfl⟩
        have hsh : ((s : Int) + (r : Int)) / 2 = (h : Int) := by omega
        have hhi1 : s ≤ h := by omega
        have hhj : h < r := by omega
        have hhn : h < n := by omega
        obtain ⟨u, hu⟩ : ∃ u, P - h = u := ⟨_, rfl⟩
        have hu1 : (P : Int) - (h : Int) = (u : Int) := by omega
        have hun : u < n := by omega
        have hsc := HS.out.only ho
        have ch := (hNo h hhn).1
        have cu := (hNo u hun).1
        have hcall := Lib.hid (fun k => sort_call hsc (HF.out u hun) (HF.out h hhn) k)
        have hneg := cmpV_neg (tt T) (f u) (f h)
        have HU : Hid (u = N - 1 - h) := by show _ = _; omega
        obtain ⟨x, hx⟩ : ∃ x, f u = x := ⟨_, rfl⟩
        obtain ⟨y, hy⟩ : ∃ y, f h = y := ⟨_, rfl⟩
        have HX := Lib.hid hx
        have HY := Lib.hid hy
        rw [hx] at cu hcall hneg
        rw [hy] at ch hcall hneg
        obtain ⟨r9, hr9⟩ : ∃ r, cmpV (tt T) x y = r := ⟨_, rfl⟩
        rw [hr9] at hcall hneg
        have HNEG := Lib.hid hneg
        have HP := Lib.hid hP
        clear hNo ho hsc hx hy hr9 hneg hh hu hP
        by_cases hr0 : r9 < 0
        · have hst : Hid (Seek (tt T) f N lo hi s h) := ⟨h1, by omega, by omega, HSK.out.low, fun _ => by
            have k2 := HNEG.out.1 hr0
            rw [← HX.out, ← HY.out, HU.out] at k2
            exact k2⟩
          go_wp2_with fail
          go_quiet ((go_at_call 56; exact Calls.quiet_of (hcall.out _)))
          have e1 := Lib.hid (HNO.out.only ((Only.refl [] _).drewN nq) (by simp))
          have e2 := Lib.hid (HO.out.drewN nq)
          go_wp2
          go_roundw
          case rel => exact ⟨s, h, rfl, rfl, hst.out, e1.out, e2.out⟩
          case measure => (simp [intOf]; try omega)
        · have hdr : (!decide (r9 < 0)) = true := by simp; omega
          have hst : Hid (Seek (tt T) f N lo hi (h + 1) r) := ⟨by omega, by omega, h3, fun _ => by
            have k2 : ¬ tt T y < tt T x := fun hx => hr0 (HNEG.out.2 hx)
            rw [← HX.out, ← HY.out, HU.out] at k2
            rw [show N - (h + 1) = N - 1 - h by omega, show h + 1 - 1 = h by omega]
            omega, HSK.out.high⟩
          go_wp2_with fail
          go_quiet ((go_at_call 56; exact Calls.quiet_of (hcall.out _)))
          have e1 := Lib.hid (HNO.out.only ((Only.refl [] _).drewN nq) (by simp))
          have e2 := Lib.hid (HO.out.drewN nq)
          go_wp2
          go_roundw
          case rel => exact ⟨h + 1, r, by go_num, rfl, hst.out, e1.out, e2.out⟩
          case measure => (simp [intOf]; try omega)
    · have hji : r = s := by omega
      subst hji
      have hct := HCUT.out r HSK.out
      obtain ⟨e, he⟩ : ∃ e, N - r = e := ⟨_, rfl⟩
      have he2 : (N : Int) - (r : Int) = (e : Int) := by have := HNN.out; omega
      rw [he] at hct
      have q1 := hct.lo
      have q2 := hct.sm
      have q3 := hct.me
      have q4 := hct.eb
      have HC := Lib.hid hct
      have hT1 : Hid (Tasks n (rotF f r m e)) := Tasks.re HF.out (rotF_re f q2 q3) (by omega)
      clear hct he hNo ho h1 h2 h3 hij HSK HCUT
      obtain ⟨b1, hb1⟩ : ∃ b1, decide (r < m ∧ m < e) = b1 := ⟨_, rfl⟩
      have HB1 := Lib.hid hb1
      obtain ⟨b2, hb2⟩ : ∃ b2, decide (a < r ∧ r < mid) = b2 := ⟨_, rfl⟩
      have HB2 := Lib.hid hb2
      clear hb1 hb2
      go_upto_region 39 with (fail)
      go_cut [185] (fun v wx => v = .bool b1 ∧ wo = wx)
      case first =>
        as_aux_lemma =>
          by_cases z1 : r < m
          · by_cases z2 : m < e
            · go_wp2
              go_meet
              exact ⟨by rw [← HB1.out]; simp [z1, z2], rfl⟩
            · go_wp2
              go_meet
              exact ⟨by rw [← HB1.out]; simp [z1, z2], rfl⟩
          · go_wp2
            go_meet
            exact ⟨by rw [← HB1.out]; simp [z1], rfl⟩
      case rest =>
      obtain ⟨rfl, rfl⟩ := hcut
      go_upto_if 185 with (fail)
      go_cut [20] (fun v wx => v = .int .i64 (r : Int) ∧ Nums wx G n (rotF f r m e) ∧ Only [G] w wx)
      case first =>
        as_aux_lemma =>
          by_cases z : r < m ∧ m < e
          · obtain rfl : b1 = true := by rw [← HB1.out]; exact decide_eq_true z
            obtain ⟨z1, z2⟩ := z
            go_wp2_with fail
            refine (hrot.out r e f wo HNO.out z1 z2 (by omega)).mono ?_
            rintro e9 w1 ⟨rfl, hN1, ho1⟩
            have ho2 := HO.out.trans ho1 (by simp)
            go_wp2
            go_meet
            exact ⟨rfl, hN1, ho2⟩
          · obtain rfl : b1 = false := by rw [← HB1.out]; exact decide_eq_false z
            have e1 : Hid (Nums wo G n (rotF f r m e)) := by show Nums _ _ _ _; rw [rotF_id f q2 q3 z]; exact HNO.out
            clear z
            go_wp2
            go_meet
            exact ⟨rfl, e1.out, HO.out⟩
      case rest =>
      obtain ⟨rfl, hN1, ho1⟩ := hcut
      obtain ⟨w1, rfl⟩ : ∃ w1, w1 = wc := ⟨_, rfl⟩
      have HN1 := Lib.hid hN1
      have HO1 := Lib.hid ho1
      clear hN1 ho1 HNO HO
      go_upto_region 41 with (fail)
      go_cut [199] (fun v wx => v = .bool b2 ∧ w1 = wx)
      case first =>
        as_aux_lemma =>
          by_cases z1 : a < r
          · by_cases z2 : r < mid
            · go_wp2
              go_meet
              exact ⟨by rw [← HB2.out]; simp [z1, z2], rfl⟩
            · go_wp2
              go_meet
              exact ⟨by rw [← HB2.out]; simp [z1, z2], rfl⟩
          · go_wp2
            go_meet
            exact ⟨by rw [← HB2.out]; simp [z1], rfl⟩
      case rest =>
      obtain ⟨rfl, rfl⟩ := hcut
      go_upto_if 199 with (fail)
      go_cut [20] (fun v wx => v = .int .i64 (r : Int) ∧ ∃ g, Nums wx G n g ∧ SR (tt T) g a ((a + b) / 2) ∧ Re (rotF f r m e) g a ((a + b) / 2) ∧ Only [G] w wx)
      case first =>
        as_aux_lemma =>
          by_cases z : a < r ∧ r < mid
          · obtain rfl : b2 = true := by rw [← HB2.out]; exact decide_eq_true z
            obtain ⟨c1, c2, c3⟩ := cut_left HR.out HC.out
            rw [HMID.out] at c2 c3
            have hcall := IH.out a r mid (rotF f r m e) w1 (by omega) (by omega) HN1.out hT1.out ⟨z.1, z.2, c1, c2, fun i j i1 i2 j1 j2 => c3 i j i1 i2 j1 j2⟩ (HS.out.only HO1.out)
            clear c1 c2 c3 z
            go_wp2_with fail
            refine hcall.mono ?_
            rintro e9 w2 ⟨rfl, g, hN2, s2, r2, ho2⟩
            have ho2 := HO1.out.trans ho2 (by simp)
            rw [← HMID.out] at s2 r2
            have S2 := Lib.hid s2
            have R2 := Lib.hid r2
            clear hcall s2 r2
            go_wp2
            go_meet
            exact ⟨rfl, g, hN2, S2.out, R2.out, ho2⟩
          · obtain rfl : b2 = false := by rw [← HB2.out]; exact decide_eq_false z
            have e1 := Lib.hid (cut_first HR.out HC.out (by rw [HMID.out]; exact z))
            clear z
            go_wp2
            go_meet
            exact ⟨rfl, _, HN1.out, e1.out, Re.refl _ _ _, HO1.out⟩
      case rest =>
      obtain ⟨rfl, g, hN2, s2, r2, ho2⟩ := hcut
      obtain ⟨w2, rfl⟩ : ∃ w2, w2 = wc := ⟨_, rfl⟩
      have HN2 := Lib.hid hN2
      have HO2 := Lib.hid ho2
      have S2 := Lib.hid s2
      have R2 := Lib.hid r2
      have hT2 : Hid (Tasks n g) := Tasks.re hT1.out r2 (by have := HMID.out; omega)
      clear hN2 ho2 s2 r2 HN1 HO1
      by_cases z : mid < e ∧ e < b
      · as_aux_lemma =>
          obtain ⟨c1, c2, c3⟩ := cut_right HR.out HC.out
          have hg : ∀ i, mid ≤ i → g i = rotF f r m e i := fun i hi => R2.out.1 i (.inr (by rw [HMID.out]; exact hi))
          rw [HMID.out] at c1 c3
          have hcall := IH.out mid e b g w2 (by omega) hb HN2.out hT2.out ⟨z.1, z.2, c1.congr (fun i i1 _ => hg i i1), c2.congr (fun i i1 _ => hg i (by omega)), fun i j i1 i2 j1 j2 => by rw [hg i i1, hg j (by omega)]; exact c3 i j i1 i2 j1 j2⟩ (HS.out.only HO2.out)
          obtain ⟨z1, z2⟩ := z
          clear c1 c2 c3 hg
          go_wp2_with fail
          refine hcall.mono ?_
          rintro e9 w3 ⟨rfl, g2, hN3, s3, r3, ho3⟩
          rw [← HMID.out] at s3 r3
          have hfin := Lib.hid (sym_join HR.out HC.out S2.out R2.out s3 r3)
          have ho3 := HO2.out.trans ho3 (by simp)
          clear hcall s3 r3
          go_wp2
          go_end0
          exact ⟨rfl, g2, hN3, hfin.out.1, hfin.out.2, ho3⟩
      · as_aux_lemma =>
          have hs3 : SR (tt T) g ((a + b) / 2) b := (cut_second HR.out HC.out (by rw [HMID.out]; exact z)).congr (fun i i1 _ => R2.out.1 i (.inr i1))
          have hfin := Lib.hid (sym_join HR.out HC.out S2.out R2.out hs3 (Re.refl _ _ _))
          clear hs3
          by_cases z1 : mid < e
          · have z2 : b ≤ e := by omega
            clear z
            go_wp2
            go_end0
            exact ⟨rfl, g, HN2.out, hfin.out.1, hfin.out.2, HO2.out⟩
          · clear z
            go_wp2
            go_end0
            exact ⟨rfl, g, HN2.out, hfin.out.1, hfin.out.2, HO2.out⟩

end Go.Proofs.YtocpmncedlenbaaGreatDoor
