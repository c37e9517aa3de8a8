/-
  The statement DepthChain: one behind the other, or beside: a chain takes all its work, tasks beside each other as long as one. No condition.
-/
import Derived.Test.YtbpkndflkbcmaaaFrame
import Derived.Test.YtbpkndflkbcmaaaReaches
import Derived.Test.YtbpkndflkbcmaaaDepth
import Derived.Test.YtbpkndflkbcmaaaLongest
import Derived.Test.YtbpkndflkbcmaaaBeside
import Derived.Test.YtbpkndflkbcmaaaChain
import Derived.Test.YtbpkndflkbcmaaaChainD
namespace Go.Proofs.Ytbpkndflkbcmaaa.depthChain
open Go.ChangeShapes Go.WideShapes Go.ChangeAt Go.RowKit
open Go.ChangeMaps (open_string shut_string)
set_option linter.unusedVariables false


open Classical in
theorem chain_reach_iff (n : Nat) (work : Int) (hn1 : 1 ≤ n) (hn : n ≤ 30) (h1 : 1 ≤ work) (h2 : work ≤ 20) : decide (Reach (chainP n work) (n - 1) 0) = decide (1 < n) := by
  by_cases h : 1 < n
  · rw [decide_eq_true h, decide_eq_true (chain_reach n work (n - 1) (by omega) (by omega))]
  · obtain rfl : n = 1 := by omega
    rw [decide_eq_false h, decide_eq_false]
    exact (chain_ok 1 work hn h1 h2).acyc 0 (by simp [chainP_len])

set_option maxHeartbeats 4000000 in
set_option maxRecDepth 100000 in
theorem walk (a0 : Int) (a1 : Int) (w : World) (w0 : (Lit.int .i64 a0).wf = true) (w1 : (Lit.int .i64 a1).wf = true) :
    Calls Try.prog 11 #[.int .i64 a0, .int .i64 a1] w fun e w' => e = .returned (.bool true) ∧ Below w.heap.size w w' := by
  have bd0 := bounds_i64 w0
  have bd1 := bounds_i64 w1
  by_cases hin : 1 ≤ a0 ∧ a0 ≤ 30 ∧ 1 ≤ a1 ∧ a1 ≤ 20
  · obtain ⟨g1, g2, g3, g4⟩ := hin
    obtain ⟨n, rfl⟩ := Int.eq_ofNat_of_zero_le (show 0 ≤ a0 by omega)
    have hn30 : n ≤ 30 := by omega
    have hn1 : 1 ≤ n := by omega
    have hok := chain_ok n a1 hn30 g3 g4
    have hbo := beside_ok n a1 hn30 g3 g4
    have hx0 : 0 ≤ (n : Int) * a1 := Int.mul_nonneg (by omega) (by omega)
    have hx1 : (n : Int) * a1 ≤ 600 := by
      have := Int.mul_le_mul (show (n : Int) ≤ 30 by omega) g4 (by omega) (by omega)
      omega
    have hS1 := Lib.hid (fun v w' (h : InPlan w' v (chainP n a1)) => depth_Span v _ w' h hok)
    have hS2 := Lib.hid (fun v w' (h : InPlan w' v (besideP n a1)) => depth_Span v _ w' h hbo)
    have hW1 := Lib.hid (fun v w' (h : InPlan w' v (chainP n a1)) => depth_Work v _ w' h hok)
    have hL1 := Lib.hid (fun v w' (h : InPlan w' v (chainP n a1)) => depth_Longest v _ w' h hok)
    have hR1 := Lib.hid (fun v w' (h : InPlan w' v (chainP n a1)) => depth_Reaches v _ 0 (n - 1) w' h hok (by rw [chainP_len]; omega) (by rw [chainP_len]; omega))
    have hwl := Lib.hid (show (natL (wayOf (chainP n a1))).length = n by rw [natL_len]; exact chain_way hn1 hn30 g3 g4)
    rw [chain_span hn1 hn30 g3 g4] at hS1
    rw [beside_span hn1 hn30 g3 g4] at hS2
    rw [chain_work] at hW1
    rw [chain_reach_iff n a1 hn1 hn30 g3 g4] at hR1
    have e1 : ((n - 1 : Nat) : Int) = (n : Int) - 1 := by omega
    rw [e1] at hR1
    clear w0 w1 bd0 bd1 hok hbo e1
    go_enter Try.func11, Try.ntmps11
    go_wp2_with fail
    refine (law_chain n a1 w hn30).mono ?_
    rintro e w1 ⟨v1, rfl, hO1, ho1⟩
    go_wp2_with fail
    refine (hS1.out v1 w1 hO1.plan).mono ?_
    rintro e w2 ⟨rfl, ho2⟩
    have ho2 := ho1.trans ho2 (by simp)
    clear hO1 ho1
    go_wp2_with fail
    refine (law_beside n a1 w2 hn30).mono ?_
    rintro e w3 ⟨v3, rfl, hO3, ho3⟩
    have ho3 := ho2.trans ho3 (by simp)
    go_wp2_with fail
    refine (hS2.out v3 w3 hO3.plan).mono ?_
    rintro e w4 ⟨rfl, ho4⟩
    have ho4 := ho3.trans ho4 (by simp)
    clear hO3 ho3 ho2
    go_wp2_with fail
    refine (law_chain n a1 w4 hn30).mono ?_
    rintro e w5 ⟨v5, rfl, hO5, ho5⟩
    have ho5 := ho4.trans ho5 (by simp)
    go_wp2_with fail
    refine (hW1.out v5 w5 hO5.plan).mono ?_
    rintro e w6 ⟨rfl, ho6⟩
    have ho6 := ho5.trans ho6 (by simp)
    clear hO5 ho5 ho4
    go_wp2_with fail
    refine (law_chain n a1 w6 hn30).mono ?_
    rintro e w7 ⟨v7, rfl, hO7, ho7⟩
    have ho7 := ho6.trans ho7 (by simp)
    go_wp2_with fail
    refine (hL1.out v7 w7 hO7.plan).mono ?_
    rintro e w8 ⟨v8, rfl, hI8, ho8⟩
    have ho8 := ho7.trans ho8 (by simp)
    obtain ⟨ia, ic, rfl, _⟩ := hI8.opt
    rw [hwl.out]
    clear hO7 ho7 ho6 hI8
    go_wp2_with fail
    refine (law_chain n a1 w8 hn30).mono ?_
    rintro e w9 ⟨v9, rfl, hO9, ho9⟩
    have ho9 := ho8.trans ho9 (by simp)
    go_wp2_with fail
    refine (hR1.out v9 w9 hO9.plan).mono ?_
    rintro e w10 ⟨rfl, ho10⟩
    have hoF := ho9.trans ho10 (by simp)
    clear hO9 ho9 ho8 ho10 hS1 hS2 hW1 hL1 hR1
    by_cases h1 : 1 < n
    · have d1 : decide ((1 : Int) < (n : Int)) = true := by simp; omega
      rw [decide_eq_true h1]
      go_wp2
      go_ret
      exact ⟨rfl, hoF.below (Nat.le_refl _) (by simp)⟩
    · have d1 : decide ((1 : Int) < (n : Int)) = false := by simp; omega
      rw [decide_eq_false h1]
      go_wp2
      go_ret
      exact ⟨rfl, hoF.below (Nat.le_refl _) (by simp)⟩
  · have hout : a0 < 1 ∨ (1 ≤ a0 ∧ 30 < a0) ∨ (1 ≤ a0 ∧ a0 ≤ 30 ∧ a1 < 1) ∨ (1 ≤ a0 ∧ a0 ≤ 30 ∧ 1 ≤ a1 ∧ 20 < a1) := by omega
    clear hin w0 w1
    rcases hout with h | ⟨h, h2⟩ | ⟨h, h2, h3⟩ | ⟨h, h2, h3, h4⟩
    all_goals
      go_enter Try.func11, Try.ntmps11
      go_wp2
      go_ret
      exact ⟨rfl, Below.refl _ _⟩

end Go.Proofs.Ytbpkndflkbcmaaa.depthChain
