/-
  What depth and greedy answer of plans that are wrong.
-/
import Derived.Test.YtbpkndflkbcmaaaRanks
import Derived.Test.YtbpkndflkbcmaaaLongest
import Derived.Test.YtbpkndflkbcmaaaGreedy2
namespace Go.Proofs.Ytbpkndflkbcmaaa
open Go.RowKit Go.Deep

theorem depth_Work_no (v : Value) (p : PlanL) (w : World) (h : InPlan w v p) (he : planFault p ≠ 0) :
    Calls Try.prog 28 #[v] w fun e w' => e = .returned (.tuple #[.int .i64 0, .iface 87 (.int .i64 (planFault p))]) ∧ Only [] w w' := by
  have hr := plan_Right v p w h
  rw [errV_ne he] at hr
  generalize planFault p = f at *
  clear h he
  go_enter Try.func28, Try.ntmps28
  go_wp2_with fail
  refine hr.mono ?_
  rintro e w1 ⟨rfl, ho⟩
  clear hr
  go_wp2
  go_ret2
  exact ⟨rfl, ho⟩

theorem depth_Span_no (v : Value) (p : PlanL) (w : World) (h : InPlan w v p) (he : planFault p ≠ 0) :
    Calls Try.prog 29 #[v] w fun e w' => e = .returned (.tuple #[.int .i64 0, .iface 87 (.int .i64 (planFault p))]) ∧ Only [] w w' := by
  have hr := plan_Right v p w h
  rw [errV_ne he] at hr
  generalize planFault p = f at *
  clear h he
  go_enter Try.func29, Try.ntmps29
  go_wp2_with fail
  refine hr.mono ?_
  rintro e w1 ⟨rfl, ho⟩
  clear hr
  go_wp2
  go_ret2
  exact ⟨rfl, ho⟩

theorem depth_Ranks_no (v : Value) (p : PlanL) (w : World) (h : InPlan w v p) (he : planFault p ≠ 0) :
    Calls Try.prog 32 #[v] w fun e w' => e = .returned (.tuple #[.slice none 0 0, .iface 87 (.int .i64 (planFault p))]) ∧ Only [] w w' := by
  have hr := plan_Right v p w h
  rw [errV_ne he] at hr
  generalize planFault p = f at *
  clear h he
  go_enter Try.func32, Try.ntmps32
  go_wp2_with fail
  refine hr.mono ?_
  rintro e w1 ⟨rfl, ho⟩
  clear hr
  go_wp2
  go_ret2
  exact ⟨rfl, ho⟩

theorem depth_Tails_no (v : Value) (p : PlanL) (w : World) (h : InPlan w v p) (he : planFault p ≠ 0) :
    Calls Try.prog 33 #[v] w fun e w' => e = .returned (.tuple #[.slice none 0 0, .iface 87 (.int .i64 (planFault p))]) ∧ Only [] w w' := by
  have hr := plan_Right v p w h
  rw [errV_ne he] at hr
  generalize planFault p = f at *
  clear h he
  go_enter Try.func33, Try.ntmps33
  go_wp2_with fail
  refine hr.mono ?_
  rintro e w1 ⟨rfl, ho⟩
  clear hr
  go_wp2
  go_ret2
  exact ⟨rfl, ho⟩

theorem depth_Longest_no (v : Value) (p : PlanL) (w : World) (h : InPlan w v p) (he : planFault p ≠ 0) :
    Calls Try.prog 31 #[v] w fun e w' => e = .returned (.tuple #[.slice none 0 0, .iface 87 (.int .i64 (planFault p))]) ∧ Only [] w w' := by
  have hr := plan_Right v p w h
  rw [errV_ne he] at hr
  generalize planFault p = f at *
  clear h he
  go_enter Try.func31, Try.ntmps31
  go_wp2_with fail
  refine hr.mono ?_
  rintro e w1 ⟨rfl, ho⟩
  clear hr
  go_wp2
  go_ret2
  exact ⟨rfl, ho⟩

end Go.Proofs.Ytbpkndflkbcmaaa
