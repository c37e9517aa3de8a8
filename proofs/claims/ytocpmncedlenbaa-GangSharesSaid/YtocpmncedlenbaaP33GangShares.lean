/-
  Contract of (*join.Join).Left.
-/
import Derived.Test.YtocpmncedlenbaaP29GangShares
namespace Go.Proofs.Ytocpmncedlenbaa
open Go.RowKit Go.Deep

theorem Join.left (S : List Nat) (FP : Nat → Prop) (J : Nat) (p : PlanL) (D : Nat → Bool) (w : World) (h : JoinIs w S FP J p D) :
    Calls Try.prog 28 #[.pointer (some ⟨J, 0, none⟩)] w fun e w' => e = .returned (.int .i64 (leftN p D : Int)) ∧ w = w' := by
  obtain ⟨pv, lv, A, h, _⟩ := h
  have c3 := h.cells.cell 3 _ rfl
  generalize leftN p D = n at *
  clear h
  go_enter Try.func28, Try.ntmps28
  go_wp2
  go_ret
  exact ⟨rfl, rfl⟩


end Go.Proofs.Ytocpmncedlenbaa
