/-
  The statement GreedyBeside: shared out: tasks beside each other, of one unit each, take as many steps as there are rounds; along a chain one step each. No condition.
-/
import Derived.Test.YtbpkndflkbcmaaaFrame
import Derived.Test.YtbpkndflkbcmaaaGreedy2
import Derived.Test.YtbpkndflkbcmaaaBeside
import Derived.Test.YtbpkndflkbcmaaaChain
import Derived.Test.YtbpkndflkbcmaaaChainG
namespace Go.Proofs.Ytbpkndflkbcmaaa.greedyBeside
open Go.ChangeShapes Go.WideShapes Go.ChangeAt Go.RowKit
open Go.ChangeMaps (open_string shut_string)
set_option linter.unusedVariables false


set_option maxHeartbeats 4000000 in
set_option maxRecDepth 100000 in
theorem walk (a0 : Int) (a1 : Int) (w : World) (w0 : (Lit.int .i64 a0).wf = true) (w1 : (Lit.int .i64 a1).wf = true) :
    Calls Try.prog 3 #[.int .i64 a0, .int .i64 a1] w fun e w' => e = .returned (.bool true) ∧ Below w.heap.size w w' := by
  have bd0 := bounds_i64 w0
  have bd1 := bounds_i64 w1
  by_cases hin : 1 ≤ a0 ∧ a0 ≤ 30 ∧ 1 ≤ a1 ∧ a1 ≤ 6
  · obtain ⟨g1, g2, g3, g4⟩ := hin
    obtain ⟨n, rfl⟩ := Int.eq_ofNat_of_zero_le (show 0 ≤ a0 by omega)
    obtain ⟨hands, rfl⟩ := Int.eq_ofNat_of_zero_le (show 0 ≤ a1 by omega)
    have hn30 : n ≤ 30 := by omega
    have hh6 : hands ≤ 6 := by omega
    have hh1 : 1 ≤ hands := by omega
    have hn1 : 1 ≤ n := by omega
    clear w0 w1 bd0 bd1
    go_enter Try.func3, Try.ntmps3
    go_wp2_with fail
    refine (law_beside n 1 w hn30).mono ?_
    rintro e w1 ⟨v1, rfl, hO1, ho1⟩
    go_wp2_with fail
    refine (greedy_Long v1 (besideP n 1) hands w1 hO1.plan (beside_ok n 1 hn30 (by omega) (by omega)) hh1 hh6).mono ?_
    rintro e w2 ⟨s, rfl, hE, hs6, ho2⟩
    have hs := Lib.hid (beside_steps hn1 hn30 hh1 hE)
    have hoo := ho1.trans ho2 (by simp)
    clear hE hO1 ho1 ho2
    go_wp2_with fail
    refine (law_chain n 1 w2 hn30).mono ?_
    rintro e w3 ⟨v3, rfl, hO3, ho3⟩
    go_wp2_with fail
    refine (greedy_Long v3 (chainP n 1) hands w3 hO3.plan (chain_ok n 1 hn30 (by omega) (by omega)) hh1 hh6).mono ?_
    rintro e w4 ⟨t, rfl, hE, ht6, ho4⟩
    have ht := chain_steps hn30 hh1 hE
    subst ht
    have hoo2 := (hoo.trans ho3 (by simp)).trans ho4 (by simp)
    clear hE hO3 ho3 ho4 hoo
    have hq : ((t : Int) + (hands : Int) - 1).tdiv (hands : Int) = (s : Int) := by
      rw [hs.out]
      obtain ⟨k, rfl⟩ : ∃ k, t = k + 1 := ⟨t - 1, by omega⟩
      rw [show ((k + 1 : Nat) : Int) + (hands : Int) - 1 = ((k + hands : Nat) : Int) by omega, ← Int.ofNat_tdiv]
      congr 2
      omega
    clear hs
    go_wp2
    go_ret
    exact ⟨by simp, hoo2.below (Nat.le_refl _) (by simp)⟩
  · have hout : a0 < 1 ∨ (1 ≤ a0 ∧ 30 < a0) ∨ (1 ≤ a0 ∧ a0 ≤ 30 ∧ a1 < 1) ∨ (1 ≤ a0 ∧ a0 ≤ 30 ∧ 1 ≤ a1 ∧ 6 < a1) := by omega
    clear hin w0 w1
    rcases hout with h | ⟨h, h2⟩ | ⟨h, h2, h3⟩ | ⟨h, h2, h3, h4⟩
    all_goals
      go_enter Try.func3, Try.ntmps3
      go_wp2
      go_ret
      exact ⟨rfl, Below.refl _ _⟩

end Go.Proofs.Ytbpkndflkbcmaaa.greedyBeside
