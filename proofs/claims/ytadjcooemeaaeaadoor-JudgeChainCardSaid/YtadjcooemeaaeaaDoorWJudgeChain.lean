/-
  The statement JudgeChain: along a chain each may begin when the one ahead has ended, not a step sooner. No condition.
-/
import Derived.Test.YtadjcooemeaaeaaDoorP2JudgeChain
import Derived.Test.YtadjcooemeaaeaaDoorP4JudgeChain
import Derived.Test.YtadjcooemeaaeaaDoorP10JudgeChain
import Derived.Test.YtadjcooemeaaeaaDoorP17JudgeChain
import Derived.Test.YtadjcooemeaaeaaDoorP34JudgeChain
namespace Go.Proofs.YtadjcooemeaaeaaDoor.judgeChain
open Go.ChangeShapes Go.WideShapes Go.ChangeAt Go.RowKit
open Go.ChangeMaps (open_string shut_string)
set_option linter.unusedVariables false


theorem chS_0 (work : Int) (i : Nat) : chS work 0 0 i = ⟨((i % 2 : Nat) : Int), (i : Int), (i : Int) * work, ((i : Int) + 1) * work⟩ := by simp [chS]

set_option maxHeartbeats 8000000 in
set_option maxRecDepth 100000 in
theorem walk (a0 : Int) (a1 : Int) (a2 : Int) (w : World) (hglob : Glob w) (w0 : (Lit.int .i64 a0).wf = true) (w1 : (Lit.int .i64 a1).wf = true) (w2 : (Lit.int .i64 a2).wf = true) :
    Calls Tryd.prog 5 #[.int .i64 a0, .int .i64 a1, .int .i64 a2] w fun e w' => e = .returned (.bool true) ∧ Below w.heap.size w w' := by
  have bd0 := bounds_i64 w0
  have bd1 := bounds_i64 w1
  have bd2 := bounds_i64 w2
  have HG := Lib.hid hglob
  by_cases hin : 2 ≤ a0 ∧ a0 ≤ 30 ∧ 1 ≤ a1 ∧ a1 ≤ 20
  · obtain ⟨g1, g2, g3, g4⟩ := hin
    obtain ⟨n, rfl⟩ := Int.eq_ofNat_of_zero_le (show 0 ≤ a0 by omega)
    have hn30 : n ≤ 30 := by omega
    have hn2 : 2 ≤ n := by omega
    have hz := Lib.hid (ch_zero hn30 g3 g4)
    have hsix := Lib.hid (fun e (h1 : 1 ≤ e) h2 => ch_six (e := e) hn30 g3 g4 h1 h2)
    have HCH := Lib.hid (fun w' => law_chain n a1 w' hn30)
    clear w0 w1 w2 bd0 bd1 hglob
    go_enter Tryd.func5, Tryd.ntmps5
    go_wp2_with fail
    go_loopw [7, 8] (fun vl vi wr => ∃ i : Nat, i ≤ n ∧ vi = .int .i64 i ∧ OwnStays wr w.heap.size vl (chL i a1 0 0) ∧ Only [] w wr) (fun _ vi _ => n - (intOf vi).toNat)
    case atStart => exact ⟨0, Nat.zero_le _, rfl, OwnStays.nil _ _, Only.refl _ _⟩
    case round =>
      obtain ⟨wo, rfl⟩ : ∃ wo : World, wo = wr := ⟨_, rfl⟩
      obtain ⟨i, hi, rfl, hO, ho⟩ := hrel
      by_cases hin : i < n
      · have hO' : wo.ownsRow w.heap.size 53 4 u7 i (flatS (chL i a1 0 0)) := by
          have := hO; unfold OwnStays at this; rw [chL_len] at this; exact this
        have hfar := Row.far hO'
        obtain ⟨a, cap, rfl, _, _⟩ := Row.form hO'
        obtain ⟨r, hr⟩ : ∃ r, i % 2 = r := ⟨_, rfl⟩
        have hmod : (i : Int).tmod 2 = (r : Int) := by rw [← hr]; rw [Int.tmod_eq_emod_of_nonneg (by omega)]; omega
        have hr1 : r ≤ 1 := by omega
        have hx0 : 0 ≤ (i : Int) * a1 := Int.mul_nonneg (by omega) (by omega)
        have hx1 : (i : Int) * a1 ≤ 600 := by
          have := Int.mul_le_mul (show (i : Int) ≤ 30 by omega) g4 (by omega) (by omega)
          omega
        have hx3 : ((i : Int) + 1) * a1 = (i : Int) * a1 + a1 := by rw [Int.add_mul, Int.one_mul]
        have hx4 : 0 ≤ ((i : Int) + 1) * a1 := by omega
        have hx5 : ((i : Int) + 1) * a1 ≤ 700 := by omega
        have hpush : Hid (flatS (chL i a1 0 0) ++ [.int .i64 (r : Int), .int .i64 (i : Int), .int .i64 ((i : Int) * a1), .int .i64 (((i : Int) + 1) * a1)] = flatS (chL (i + 1) a1 0 0)) := by
          show _ = _
          rw [← chL_push, ← flatS_push, chS_0, hr]
        have hone : Hid (RowAt (wo.alloc (.cells #[.int .i64 (r : Int), .int .i64 (i : Int), .int .i64 ((i : Int) * a1), .int .i64 (((i : Int) + 1) * a1)] 53)) (.slice (some ⟨wo.heap.size, 0, none⟩) 1 1) 1 4 [.int .i64 (r : Int), .int .i64 (i : Int), .int .i64 ((i : Int) * a1), .int .i64 (((i : Int) + 1) * a1)]) :=
          RowAt.one (cs := #[.int .i64 (r : Int), .int .i64 (i : Int), .int .i64 ((i : Int) * a1), .int .i64 (((i : Int) + 1) * a1)]) (by have h := heap_alloc_new wo (.cells #[.int .i64 (r : Int), .int .i64 (i : Int), .int .i64 ((i : Int) * a1), .int .i64 (((i : Int) + 1) * a1)] 53); simpa using h) rfl (by intro y hy; simp at hy; rcases hy with rfl | rfl | rfl | rfl <;> rfl)
        have hsz := ho.size
        have HO' := Lib.hid hO'
        have HO := Lib.hid ho
        clear hO hO' ho hr hx3
        go_wp2_with (at_builtin; refine wpList_append_rows sliceOf_stays rfl (.tmp 30) (.tmp 42) rfl wo w.heap.size _ _ _ _ 1 _ HO'.out hone.out (by omega) hsz rfl rfl ((Only.refl [] _).alloc _) ?_; intro v3 w3 hI3 hO3 hK3)
        rw [hpush.out] at hI3
        have hP : OwnStays w3 w.heap.size v3 (chL (i + 1) a1 0 0) := by unfold OwnStays; rw [chL_len]; exact hI3
        have HP := Lib.hid hP
        have ho3 : Hid (Only [] w w3) := HO.out.trans hO3 (fun x hx hl => by have := (hfar x hx).1; omega)
        clear hI3 hO3 hK3 hP
        go_roundw
        case rel => exact ⟨i + 1, by omega, by go_num, HP.out, ho3.out⟩
        case measure => (simp [intOf]; try omega)
      · obtain rfl : i = n := by omega
        have hO' : wo.ownsRow w.heap.size 53 4 u7 i (flatS (chL i a1 0 0)) := by
          have := hO; unfold OwnStays at this; rw [chL_len] at this; exact this
        obtain ⟨a, cap, rfl, hcap, hcm, hg⟩ := Row.form hO'
        obtain ⟨g, rfl, hg1, hg2⟩ := hg (by omega)
        have hA := Lib.hid hO.at
        have hfz := Lib.hid (fun j => World.ownsRow.frozenAt hO' j)
        clear hO hO'
        go_wp2_with fail
        refine (HCH.out wo).mono ?_
        rintro e w1 ⟨v1, rfl, hP1, ho1⟩
        have hst := judge_Stays v1 (.slice (some ⟨g, 0, none⟩) i cap) _ 2 _ w1 hP1.plan (hA.out.same ho1) (by rw [chL_len]; omega) (by rintro a n c ⟨⟩; exact hcap)
        rw [hz.out, errV_zero] at hst
        have hA1 := Lib.hid (hA.out.same ho1)
        have ho1w := ho.trans ho1 (by simp)
        have hsz1 := ho1.size
        have hfz1 := Lib.hid (fun j => (ho1.frozen (p := ⟨g, j, none⟩) hg2 (by simp)).trans (hfz.out j))
        clear hP1 hA hfz ho ho1
        go_wp2_with fail
        refine hst.mono ?_
        rintro e w2 ⟨rfl, ho2⟩
        have hA2 := Lib.hid (hA1.out.same ho2)
        have hgw1 : g < w1.heap.size := by omega
        have hfz2 := Lib.hid (fun j => (ho2.frozen (p := ⟨g, j, none⟩) hgw1 (by simp)).trans (hfz1.out j))
        have hgw2 : g < w2.heap.size := by have := ho2.size; omega
        have ho2w := ho1w.trans ho2 (by simp)
        clear hst hA1 hfz1 ho1w ho2
        by_cases hlo : a2 < 1
        · go_wp2
          go_ret
          exact ⟨by rfl, ho2w.below (Nat.le_refl _) (by simp)⟩
        · by_cases hhi : (i : Int) ≤ a2
          · have hlo' : 1 ≤ a2 := by omega
            clear hlo
            go_wp2
            go_ret
            exact ⟨by rfl, ho2w.below (Nat.le_refl _) (by simp)⟩
          · obtain ⟨e, rfl⟩ := Int.eq_ofNat_of_zero_le (show 0 ≤ a2 by omega)
            have he1 : 1 ≤ e := by omega
            have hei : e < i := by omega
            obtain ⟨x9, c9, hv9, hc9⟩ := hA2.out.opt
            rw [chL_len] at hv9 hc9
            obtain ⟨b9, o9, hx9, _, _, c2, c3⟩ := hc9 e hei
            injection hv9 with q1 _ q3
            subst q3
            rw [hx9] at q1
            injection q1 with q1
            injection q1 with q1 q2 _
            subst q1 q2
            rw [stAt_ch hei, chS_0] at c2 c3
            simp only [Nat.zero_add] at c2 c3
            have hx0 : 0 ≤ (e : Int) * a1 := Int.mul_nonneg (by omega) (by omega)
            have hx1 : (e : Int) * a1 ≤ 600 := by
              have := Int.mul_le_mul (show (e : Int) ≤ 30 by omega) g4 (by omega) (by omega)
              omega
            have hx3 : ((e : Int) + 1) * a1 = (e : Int) * a1 + a1 := by rw [Int.add_mul, Int.one_mul]
            have hset := StaysAt.set2 hA2.out (chL_len _ _ _ _) hei ((e : Int) * a1 - 1) (((e : Int) + 1) * a1 - 1)
            rw [stAt_ch hei, ch_set] at hset
            obtain ⟨X, hX⟩ : ∃ X, (e : Int) * a1 = X := ⟨_, rfl⟩
            obtain ⟨Y, hY⟩ : ∃ Y, ((e : Int) + 1) * a1 = Y := ⟨_, rfl⟩
            rw [hX] at c2 hset hx0 hx1 hx3
            rw [hY] at c3 hset hx3
            subst hx3
            have hset := Lib.hid hset
            have f2 := hfz2.out (e * 4 + 2)
            have f3 := hfz2.out (e * 4 + 3)
            have c3' : (w2.setCell ⟨g, e * 4 + 2, none⟩ (.int .i64 (X - 1))).cell? ⟨g, e * 4 + 3, none⟩ = some (.int .i64 (X + a1)) := (World.cell?_setCell_other _ _ _ _ (fun x => by injection x with _ x _; omega)).trans c3
            have hos := Lib.hid ((ho2w.setCell (p := ⟨g, e * 4 + 2, none⟩) (fun hlt => by simp at hlt; omega) (.int .i64 (X - 1))).setCell (p := ⟨g, e * 4 + 3, none⟩) (fun hlt => by simp at hlt; omega) (.int .i64 (X + a1 - 1)))
            have HS6 := Lib.hid (hsix.out e he1 hei)
            clear hc9 hfz2 hA2 hX hY ho2w hlo hhi
            go_wp2_with fail
            obtain ⟨w3, hw3⟩ : ∃ w3, (w2.setCell ⟨g, e * 4 + 2, none⟩ (.int .i64 (X - 1))).setCell ⟨g, e * 4 + 3, none⟩ (.int .i64 (X + a1 - 1)) = w3 := ⟨_, rfl⟩
            rw [hw3] at hset hos ⊢
            clear hw3 c2 c3 c3' f2 f3
            refine (HCH.out w3).mono ?_
            rintro e9 w4 ⟨v4, rfl, hP4, ho4⟩
            have hst := judge_Stays v4 _ _ 2 _ w4 hP4.plan (hset.out.same ho4) (by rw [chL_len]; omega) (by rintro a n c ⟨⟩; exact hcap)
            rw [HS6.out, errV_ne (show (6 : Int) ≠ 0 by decide)] at hst
            have ho4 := hos.out.trans ho4 (by simp)
            clear hP4 hset hos
            go_wp2_with fail
            refine hst.mono ?_
            rintro e9 w5 ⟨rfl, ho5⟩
            have ho5 := ho4.trans ho5 (by simp)
            have hgl := HG.out.only ho5
            clear hst ho4
            go_wp2_with fail
            refine (same_err _ _ _ hgl true (by simp)).mono ?_
            rintro e9 w6 ⟨rfl, ho6⟩
            have ho6 := ho5.trans ho6 (by simp)
            clear hgl ho5
            go_wp2
            go_ret
            exact ⟨by rfl, ho6.below (Nat.le_refl _) (by simp)⟩
  · clear w0 w1 w2 hglob
    by_cases h1 : a0 < 2
    · go_enter Tryd.func5, Tryd.ntmps5
      go_wp2
      go_ret
      exact ⟨by rfl, (Only.refl [] w).below (Nat.le_refl _) (by simp)⟩
    · by_cases h2 : 30 < a0
      · go_enter Tryd.func5, Tryd.ntmps5
        go_wp2
        go_ret
        exact ⟨by rfl, (Only.refl [] w).below (Nat.le_refl _) (by simp)⟩
      · by_cases h3 : a1 < 1
        · have h1' : 2 ≤ a0 := by omega
          have h2' : a0 ≤ 30 := by omega
          clear h1 h2 hin
          go_enter Tryd.func5, Tryd.ntmps5
          go_wp2
          go_ret
          exact ⟨by rfl, (Only.refl [] w).below (Nat.le_refl _) (by simp)⟩
        · have h1' : 2 ≤ a0 := by omega
          have h2' : a0 ≤ 30 := by omega
          have h3' : 1 ≤ a1 := by omega
          have h4 : 20 < a1 := by omega
          clear h1 h2 h3 hin
          go_enter Tryd.func5, Tryd.ntmps5
          go_wp2
          go_ret
          exact ⟨by rfl, (Only.refl [] w).below (Nat.le_refl _) (by simp)⟩

end Go.Proofs.YtadjcooemeaaeaaDoor.judgeChain
