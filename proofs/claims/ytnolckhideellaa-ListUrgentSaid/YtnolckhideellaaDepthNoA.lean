/-
  What depth and greedy answer of plans that are wrong.
-/
import Derived.Test.YtnolckhideellaaDepth
namespace Go.Proofs.Ytnolckhideellaa
open Go.RowKit Go.Deep



theorem depth_Tails_no (v : Value) (p : PlanL) (w : World) (h : InPlan w v p) (he : planFault p ≠ 0) :
    Calls Try.prog 6 #[v] w fun e w' => e = .returned (.tuple #[.slice none 0 0, .iface 46 (.int .i64 (planFault p))]) ∧ Only [] w w' := by
  have hr := plan_Right v p w h
  rw [errV_ne he] at hr
  generalize planFault p = f at *
  clear h he
  go_enter Try.func6, Try.ntmps6
  go_wp2_with fail
  refine hr.mono ?_
  rintro e w1 ⟨rfl, ho⟩
  clear hr
  go_wp2
  go_ret2
  exact ⟨rfl, ho⟩

end Go.Proofs.Ytnolckhideellaa
