/-
  Contracts of greedy.Bound, and greedy.Long of what is wrong.
-/
import Derived.Test.YtbpkndflkbcmaaaDepthNo
namespace Go.Proofs.Ytbpkndflkbcmaaa
open Go.RowKit Go.Deep

theorem workF_bd {p : PlanL} (h : PlanOk p) : (p.length : Int) ≤ workF p ∧ workF p ≤ 600 := workK_bd h p.length (Nat.le_refl _)

theorem greedy_Long_no (v : Value) (p : PlanL) (hands : Int) (w : World) (h : InPlan w v p) (he : hErr p hands ≠ 0) :
    Calls Try.prog 15 #[v, .int .i64 hands] w fun e w' => e = .returned (.tuple #[.int .i64 0, .iface 87 (.int .i64 (hErr p hands))]) ∧ Only [] w w' := by
  have hr := greedy_Run_no v p hands w h he
  generalize hErr p hands = f at *
  clear h he
  go_enter Try.func15, Try.ntmps15
  go_wp2_with fail
  refine hr.mono ?_
  rintro e w1 ⟨rfl, ho⟩
  clear hr
  go_wp2
  go_ret2
  exact ⟨rfl, ho⟩

theorem greedy_Bound_no (v : Value) (p : PlanL) (hands : Int) (w : World) (h : InPlan w v p) (he : hErr p hands ≠ 0) :
    Calls Try.prog 40 #[v, .int .i64 hands] w fun e w' => e = .returned (.tuple #[.int .i64 0, .iface 87 (.int .i64 (hErr p hands))]) ∧ Only [] w w' := by
  have hr := greedy_ready v p hands w h
  rw [errV_ne he] at hr
  generalize hErr p hands = f at *
  clear h he
  go_enter Try.func40, Try.ntmps40
  go_wp2_with fail
  refine hr.mono ?_
  rintro e w1 ⟨rfl, ho⟩
  clear hr
  go_wp2
  go_ret2
  exact ⟨rfl, ho⟩

/-- Graham's bound. -/
def boundF (p : PlanL) (hands : Int) : Int := (workF p + (hands - 1) * spanF p) / hands

theorem bound_num (s k : Int) (h1 : 1 ≤ k) (h6 : k ≤ 6) (hs : 0 ≤ s ∧ s ≤ 600) : 0 ≤ (k - 1) * s ∧ (k - 1) * s ≤ 3000 := by
  refine ⟨Int.mul_nonneg (by omega) hs.1, ?_⟩
  have h := Int.mul_le_mul (show k - 1 ≤ 5 by omega) hs.2 hs.1 (by omega)
  omega

theorem greedy_Bound (v : Value) (p : PlanL) (hands : Int) (w : World) (h : InPlan w v p) (hok : PlanOk p) (h1 : 1 ≤ hands) (h6 : hands ≤ 6) :
    Calls Try.prog 40 #[v, .int .i64 hands] w fun e w' => e = .returned (.tuple #[.int .i64 (boundF p hands), .nilIface]) ∧ Only [] w w' := by
  have hr := greedy_ready v p hands w h
  rw [hErr_ok hok h1 h6, errV_zero] at hr
  have hw := fun w' (ho : Only [] w w') => depth_WorkOf v p w' (h.same ho) hok
  have hs := fun w' (ho : Only [] w w') => depth_SpanOf v p w' (h.same ho) hok
  have hwb := workF_bd hok
  have hsb := spanF_bd hok
  unfold boundF
  generalize workF p = x at *
  generalize spanF p = s at *
  have hn := bound_num s hands h1 h6 hsb
  have HW := Lib.hid hw
  have HS := Lib.hid hs
  clear h hok hw hs
  go_enter Try.func40, Try.ntmps40
  go_wp2_with fail
  refine hr.mono ?_
  rintro e w1 ⟨rfl, ho⟩
  clear hr
  go_wp2_with fail
  refine (HW.out w1 ho).mono ?_
  rintro e w2 ⟨rfl, ho2⟩
  have ho2 := ho.trans ho2 (by simp)
  go_wp2_with fail
  refine (HS.out w2 ho2).mono ?_
  rintro e w3 ⟨rfl, ho3⟩
  have ho3 := ho2.trans ho3 (by simp)
  go_wp2
  go_ret2
  exact ⟨rfl, ho3⟩

end Go.Proofs.Ytbpkndflkbcmaaa
