/-
  The statement GreedyMore: is not worse alone: with one hand it takes all its work, and the bound is that. No condition.
-/
import Derived.Test.YtbpkndflkbcmaaaFrame
import Derived.Test.YtbpkndflkbcmaaaBound
import Derived.Test.YtbpkndflkbcmaaaGreedyB
import Derived.Test.YtbpkndflkbcmaaaChain
import Derived.Test.YtbpkndflkbcmaaaChainG
namespace Go.Proofs.Ytbpkndflkbcmaaa.greedyMore
open Go.ChangeShapes Go.WideShapes Go.ChangeAt Go.RowKit
open Go.ChangeMaps (open_string shut_string)
set_option linter.unusedVariables false

theorem chain32 : boundF (chainP 3 2) 2 = 6 := by decide +kernel
theorem bound_one (p : PlanL) : boundF p 1 = workF p := by unfold boundF; simp

set_option maxHeartbeats 4000000 in
set_option maxRecDepth 100000 in
theorem walk (v0 : Value) (l0 : PlanL) (w : World) (w0 : ArgPlan w v0 l0) :
    Calls Try.prog 12 #[v0] w fun e w' => e = .returned (.bool true) ∧ Below w.heap.size w w' := by
  have HP := Lib.hid w0.2
  clear w0
  go_enter Try.func12, Try.ntmps12
  go_wp2_with fail
  refine (law_chain 3 2 w (by omega)).mono ?_
  rintro e w1 ⟨v1, rfl, hO1, ho1⟩
  have hb := greedy_Bound v1 (chainP 3 2) 2 w1 hO1.plan (chain_ok 3 2 (by omega) (by omega) (by omega)) (by omega) (by omega)
  rw [chain32] at hb
  clear hO1
  go_wp2_with fail
  refine hb.mono ?_
  rintro e w2 ⟨rfl, ho2⟩
  have hoo := ho1.trans ho2 (by simp)
  clear hb ho1 ho2
  by_cases hok : planFault l0 = 0
  · have hOK := (planOk_iff l0).2 hok
    have hl := greedy_Long v0 l0 1 w2 (HP.out.same hoo) hOK (by omega) (by omega)
    have hw := Lib.hid (fun w' (ho : Only [] w w') => depth_Work v0 l0 w' (HP.out.same ho) hOK)
    have hb := Lib.hid (fun w' (ho : Only [] w w') => greedy_Bound v0 l0 1 w' (HP.out.same ho) hOK (by omega) (by omega))
    rw [bound_one] at hb
    have hal := Lib.hid (fun s he => greedy_alone hOK (s := s) he)
    clear hok hOK
    go_wp2_with fail
    refine hl.mono ?_
    rintro e w3 ⟨s, rfl, hE, _, ho3⟩
    have hs := hal.out s hE
    rw [← hs] at hw hb
    have ho3 := hoo.trans ho3 (by simp)
    clear hl hal hE hs
    go_wp2_with fail
    refine (hw.out w3 ho3).mono ?_
    rintro e w4 ⟨rfl, ho4⟩
    have ho4 := ho3.trans ho4 (by simp)
    go_wp2_with fail
    refine (hb.out w4 ho4).mono ?_
    rintro e w5 ⟨rfl, ho5⟩
    have ho5 := ho4.trans ho5 (by simp)
    clear hw hb
    go_wp2
    go_ret
    exact ⟨rfl, ho5.below (Nat.le_refl _) (by simp)⟩
  · have he : hErr l0 1 ≠ 0 := by unfold hErr; rw [if_neg hok]; exact hok
    have hl := greedy_Long_no v0 l0 1 w2 (HP.out.same hoo) he
    generalize hErr l0 1 = f at *
    clear hok he
    go_wp2_with fail
    refine hl.mono ?_
    rintro e w3 ⟨rfl, ho3⟩
    have ho3 := hoo.trans ho3 (by simp)
    clear hl
    go_wp2
    go_ret
    exact ⟨rfl, ho3.below (Nat.le_refl _) (by simp)⟩

end Go.Proofs.Ytbpkndflkbcmaaa.greedyMore
