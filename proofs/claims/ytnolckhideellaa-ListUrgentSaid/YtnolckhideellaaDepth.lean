/-
  Contracts of depth.WorkOf, SpanOf, Work, Span, Tails.
-/
import Derived.Test.YtnolckhideellaaTails
namespace Go.Proofs.Ytnolckhideellaa
open Go.RowKit Go.Deep



theorem depth_Tails (v : Value) (p : PlanL) (w : World) (h : InPlan w v p) (hok : PlanOk p) :
    Calls Try.prog 6 #[v] w fun e w' => ∃ A, e = .returned (.tuple #[.slice (some ⟨A, 0, none⟩) p.length p.length, .nilIface]) ∧ w.heap.size ≤ A ∧ Nums w' A p.length (tailF p) ∧ Only [] w w' := by
  have hr := plan_Right v p w h
  rw [(planOk_iff p).1 hok, errV_zero] at hr
  have hg := fun w' (ho : Only [] w w') => depth_TailsOf v p w' (h.same ho) hok
  generalize p.length = n at *
  have HG := Lib.hid hg
  clear h hok hg
  go_enter Try.func6, Try.ntmps6
  go_wp2_with fail
  refine hr.mono ?_
  rintro e w1 ⟨rfl, ho⟩
  clear hr
  go_wp2_with fail
  refine (HG.out w1 ho).mono ?_
  rintro e w2 ⟨v', rfl, ⟨A, rfl, hA, hB⟩, ho2⟩
  have hA2 : w.heap.size ≤ A := by have := ho.size; omega
  have hoo := ho.trans ho2 (by simp)
  have HB := Lib.hid hB
  clear ho ho2 hB
  go_wp2
  go_ret2
  exact ⟨A, rfl, hA2, HB.out, hoo⟩



end Go.Proofs.Ytnolckhideellaa
