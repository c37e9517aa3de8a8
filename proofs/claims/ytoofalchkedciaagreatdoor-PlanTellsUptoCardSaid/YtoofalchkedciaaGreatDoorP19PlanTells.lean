/-
  Contracts of plan.After.
  Contracts of plan.Order.
-/
import Derived.Test.YtoofalchkedciaaGreatDoorP17PlanTells
import Derived.Test.YtoofalchkedciaaGreatDoorP15PlanTells
import Derived.Test.YtoofalchkedciaaGreatDoorP16PlanTells
namespace Go.Proofs.YtoofalchkedciaaGreatDoor
open Go.RowKit Go.Deep

set_option maxRecDepth 100000 in
theorem plan_After_ok (v : Value) (p : PlanL) (i : Int) (w : World) (h : InPlan w v p) (hok : PlanOk p) (h0 : 0 ≤ i) (h1 : i < p.length) :
    Calls Tryz.prog 18 #[v, .int .i64 i] w fun e w' => ∃ a c, e = .returned (.tuple #[.slice a (afterOf p i).length c, .nilIface]) ∧ Ints w' w.heap.size (.slice a (afterOf p i).length c) (natL (afterOf p i)) ∧ Only [] w w' := by
  have hR := plan_Right v p w h
  rw [(planOk_iff p).1 hok, errV_zero] at hR
  have hO := Lib.hid (fun w1 (ho : Only [] w w1) => plan_AfterOf v p i w1 (h.same ho) hok)
  have h30 := hok.len
  have hl : (natL (afterOf p i)).length = (afterOf p i).length := natL_len _
  obtain ⟨a, cap, rfl, _⟩ := h.task
  obtain ⟨n, hn⟩ : ∃ n, p.length = n := ⟨_, rfl⟩
  rw [hn] at hR hO h1 h30 ⊢
  have HL := Lib.hid hl
  clear h hok hn hl
  go_enter Tryz.func18, Tryz.ntmps18
  go_wp2_with fail
  refine hR.mono ?_
  rintro e w1 ⟨rfl, ho1⟩
  have hO1 := hO.out w1 ho1
  clear hR hO
  go_wp2_with fail
  refine hO1.mono ?_
  rintro e w2 ⟨v2, rfl, hI, ho2⟩
  have hI2 : Ints w2 w.heap.size v2 (natL (afterOf p i)) := hI.mono ho1.size
  have hoo := ho1.trans ho2 (by simp)
  obtain ⟨va, vc, hv, _⟩ := hI2.opt
  rw [HL.out] at hv
  subst hv
  have HI := Lib.hid hI2
  clear hO1 hI ho1 ho2 hI2
  go_wp2
  go_ret2
  exact ⟨_, _, rfl, HI.out, hoo⟩

set_option maxRecDepth 100000 in
theorem plan_After_no (v : Value) (p : PlanL) (i : Int) (w : World) (h : InPlan w v p) (h0 : planFault p ≠ 0) :
    Calls Tryz.prog 18 #[v, .int .i64 i] w fun e w' => e = .returned (.tuple #[.slice none 0 0, errV (planFault p)]) ∧ Only [] w w' := by
  have hR := plan_Right v p w h
  generalize planFault p = pe at *
  rw [errV_ne h0] at hR ⊢
  obtain ⟨a, cap, rfl, _⟩ := h.task
  clear h
  go_enter Tryz.func18, Tryz.ntmps18
  go_wp2_with fail
  refine hR.mono ?_
  rintro e w1 ⟨rfl, ho1⟩
  clear hR
  go_wp2
  go_ret2
  exact ⟨rfl, ho1⟩

set_option maxRecDepth 100000 in
theorem plan_After_out (v : Value) (p : PlanL) (i : Int) (w : World) (h : InPlan w v p) (hok : PlanOk p) (h0 : i < 0 ∨ (p.length : Int) ≤ i) :
    Calls Tryz.prog 18 #[v, .int .i64 i] w fun e w' => e = .returned (.tuple #[.slice none 0 0, errV 1]) ∧ Only [] w w' := by
  have hR := plan_Right v p w h
  rw [(planOk_iff p).1 hok, errV_zero] at hR
  obtain ⟨a, cap, rfl, _⟩ := h.task
  obtain ⟨n, hn⟩ : ∃ n, p.length = n := ⟨_, rfl⟩
  rw [hn] at hR h0 ⊢
  clear h hok hn
  have hc : i < 0 ∨ (0 ≤ i ∧ (n : Int) ≤ i) := by omega
  clear h0
  go_enter Tryz.func18, Tryz.ntmps18
  go_wp2_with fail
  refine hR.mono ?_
  rintro e w1 ⟨rfl, ho1⟩
  clear hR
  rcases hc with g1 | ⟨g1, g2⟩
  all_goals
    go_wp2
    go_ret2
    exact ⟨rfl, by first | exact ho1 | exact ho1.alloc _⟩

end Go.Proofs.YtoofalchkedciaaGreatDoor

namespace Go.Proofs.YtoofalchkedciaaGreatDoor
open Go.RowKit Go.Deep

set_option maxRecDepth 100000 in
set_option maxHeartbeats 2000000 in
theorem plan_Order_ok (v : Value) (p : PlanL) (w : World) (h : InPlan w v p) (hok : PlanOk p) :
    Calls Tryz.prog 14 #[v] w fun e w' => ∃ v', e = .returned (.tuple #[v', .nilIface]) ∧ Ints w' w.heap.size v' (natL (orderOf p)) ∧ Only [] w w' := by
  have hR := plan_Right v p w h
  rw [(planOk_iff p).1 hok, errV_zero] at hR
  have hO := Lib.hid (fun w1 (ho : Only [] w w1) => plan_OrderOf v p w1 (h.same ho) hok)
  obtain ⟨a, cap, rfl, _⟩ := h.task
  clear h hok
  go_enter Tryz.func14, Tryz.ntmps14
  go_wp2_with fail
  refine hR.mono ?_
  rintro e w1 ⟨rfl, ho1⟩
  have hO1 := hO.out w1 ho1
  clear hR hO
  go_wp2_with fail
  refine hO1.mono ?_
  rintro e w2 ⟨v2, rfl, hI, ho2⟩
  have hI2 : Ints w2 w.heap.size v2 (natL (orderOf p)) := hI.mono ho1.size
  have hoo := ho1.trans ho2 (by simp)
  clear hO1 hI ho1 ho2
  obtain ⟨va, vc, rfl, _⟩ := hI2.opt
  go_wp2
  go_ret2
  exact ⟨_, rfl, hI2, hoo⟩

set_option maxRecDepth 100000 in
set_option maxHeartbeats 2000000 in
theorem plan_Order_no (v : Value) (p : PlanL) (w : World) (h : InPlan w v p) (h0 : planFault p ≠ 0) :
    Calls Tryz.prog 14 #[v] w fun e w' => e = .returned (.tuple #[.slice none 0 0, errV (planFault p)]) ∧ Only [] w w' := by
  have hR := plan_Right v p w h
  generalize planFault p = pe at *
  rw [errV_ne h0] at hR ⊢
  obtain ⟨a, cap, rfl, _⟩ := h.task
  clear h
  go_enter Tryz.func14, Tryz.ntmps14
  go_wp2_with fail
  refine hR.mono ?_
  rintro e w1 ⟨rfl, ho1⟩
  clear hR
  go_wp2
  go_ret2
  exact ⟨rfl, ho1⟩

end Go.Proofs.YtoofalchkedciaaGreatDoor
