/-
  yardsame.Error at an error and its own number.
-/
import Derived.Test.YtloojhnhialenaaDoorPlanK
import Derived.Test.YtloojhnhialenaaDoorTold
namespace Go.Proofs.YtloojhnhialenaaDoor
open Go.RowKit

theorem same_errV (n : Int) (w : World) (hg : Glob w) : Calls Tryd.prog 13 #[errV n, .int .i64 n] w fun e w' => e = .returned (.bool true) ∧ Only [] w w' := by
  by_cases h : n = 0
  · subst h
    rw [errV_zero]
    refine (same_nil 0 w true rfl).mono ?_
    rintro e w' ⟨he, rfl⟩
    exact ⟨he, Only.refl _ _⟩
  · rw [errV_ne h]
    exact same_err n n w hg true (by simp)

end Go.Proofs.YtloojhnhialenaaDoor
