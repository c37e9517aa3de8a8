/-
  Contracts of plan.Order.
-/
import Derived.Test.YtoofalchkedciaaDoorPlanO
namespace Go.Proofs.YtoofalchkedciaaDoor
open Go.RowKit Go.Deep

set_option maxRecDepth 100000 in
set_option maxHeartbeats 2000000 in
theorem plan_Order_ok (v : Value) (p : PlanL) (w : World) (h : InPlan w v p) (hok : PlanOk p) :
    Calls Tryd.prog 7 #[v] w fun e w' => ∃ v', e = .returned (.tuple #[v', .nilIface]) ∧ Ints w' w.heap.size v' (natL (orderOf p)) ∧ Only [] w w' := by
  have hR := plan_Right v p w h
  rw [(planOk_iff p).1 hok, errV_zero] at hR
  have hO := Lib.hid (fun w1 (ho : Only [] w w1) => plan_OrderOf v p w1 (h.same ho) hok)
  obtain ⟨a, cap, rfl, _⟩ := h.task
  clear h hok
  go_enter Tryd.func7, Tryd.ntmps7
  go_wp2_with fail
  refine hR.mono ?_
  rintro e w1 ⟨rfl, ho1⟩
  have hO1 := hO.out w1 ho1
  clear hR hO
  go_wp2_with fail
  refine hO1.mono ?_
  rintro e w2 ⟨v2, rfl, hI, ho2⟩
  have hI2 : Ints w2 w.heap.size v2 (natL (orderOf p)) := hI.mono ho1.size
  have hoo := ho1.trans ho2 (by simp)
  clear hO1 hI ho1 ho2
  obtain ⟨va, vc, rfl, _⟩ := hI2.opt
  go_wp2
  go_ret2
  exact ⟨_, rfl, hI2, hoo⟩

set_option maxRecDepth 100000 in
set_option maxHeartbeats 2000000 in
theorem plan_Order_no (v : Value) (p : PlanL) (w : World) (h : InPlan w v p) (h0 : planFault p ≠ 0) :
    Calls Tryd.prog 7 #[v] w fun e w' => e = .returned (.tuple #[.slice none 0 0, errV (planFault p)]) ∧ Only [] w w' := by
  have hR := plan_Right v p w h
  generalize planFault p = pe at *
  rw [errV_ne h0] at hR ⊢
  obtain ⟨a, cap, rfl, _⟩ := h.task
  clear h
  go_enter Tryd.func7, Tryd.ntmps7
  go_wp2_with fail
  refine hR.mono ?_
  rintro e w1 ⟨rfl, ho1⟩
  clear hR
  go_wp2
  go_ret2
  exact ⟨rfl, ho1⟩

end Go.Proofs.YtoofalchkedciaaDoor
