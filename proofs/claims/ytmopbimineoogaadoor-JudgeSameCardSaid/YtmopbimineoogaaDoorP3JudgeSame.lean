/-
  What the tied cards share: the listed variable's cell, a world that meets the condition. After the kit's worked proof 'toyas'.
  The first fault of a row of tests. No program is named here.
-/
import Derived.Test.YtmopbimineoogaaDoorP1JudgeSame
import Derived.Test.YtmopbimineoogaaDoorP2JudgeSame
import Derived.ChangeSame
import Derived.ChangeVars
import Derived.JoinedOf
import Derived.RowKit
import Derived.LaidLaws
import Derived.LaidHandle
import Derived.Stop.Joined
namespace Go.Proofs.YtmopbimineoogaaDoor
open Go.ChangeShapes Go.WideShapes Go.RowKit

theorem tell_et : Tryd.prog.globalNamed "errors.errorType" = some 0 := by kernel_rfl
theorem tell_rt : (Tryd.prog.cutTypes.find? (·.1 == "internal/reflectlite.rtype")).map (·.2) = some 119 := by kernel_rfl
theorem tell_one : ((List.range Tryd.prog.types.size).filter fun t => Tryd.prog.rowNamed t [101, 114, 114, 111, 114]) = [32] := by kernel_rfl

def laidList : List (String × DataW Unit) := [("errors.errorType", Rows.laid_errors_errorType)]

/-- What the condition gives a walk: the variable's one cell. -/
theorem glob_of_laid {W : World} (h : laidMetH Tryd.prog laidList W) : Glob W := by
  have h' : laidMet Tryd.prog [] W ∧ handlesMet Tryd.prog laidList W := h
  obtain ⟨name, u, ty, e1, e2, e3, e4, e5⟩ := h'.2 _ (List.mem_singleton.2 rfl)
  have en : name = [101, 114, 114, 111, 114] := (Option.some.inj e1).symm
  subst en
  obtain rfl := Option.some.inj (tell_rt.symm.trans e2)
  have hm : ty ∈ (List.range Tryd.prog.types.size).filter fun t => Tryd.prog.rowNamed t [101, 114, 114, 111, 114] := List.mem_filter.2 ⟨List.mem_range.2 e3, e4⟩
  rw [tell_one] at hm
  obtain rfl := List.mem_singleton.1 hm
  have hh : typeHandle Tryd.prog 32 = .pointer (some ⟨1, 32, none⟩) := by kernel_rfl
  rw [hh] at e5
  unfold Glob
  simpa using World.var?_cell tell_et e5 0

/-- A world that meets the condition: the settled one, the variable's cell laid. -/
noncomputable def laidWorld (os : Os) : World :=
  let w0 := World.holding Tryd.prog os ⟨#[], #[], []⟩
  { w0 with heap := w0.heap.modify 0 fun
      | .cells _ t frozen => .cells #[.iface 119 (.agg #[.pointer (some ⟨1, 32, none⟩)])] t frozen
      | o => o }
theorem laidWorld_met (os : Os) (args : Array Value) : laidMetH Tryd.prog laidList ((laidWorld os).forCall (fun _ _ => 0) ⟨#[], args, []⟩).memory :=
  laidMetH_of_parts (laidMet_nil _ _) (by kernel_rfl)

end Go.Proofs.YtmopbimineoogaaDoor

namespace Go.Proofs.YtmopbimineoogaaDoor

/-- The first fault among the first k. -/
def firstE (F : Nat → Int) : Nat → Int
  | 0 => 0
  | k + 1 => if firstE F k = 0 then F k else firstE F k

theorem firstE_zero (F : Nat → Int) : firstE F 0 = 0 := rfl
theorem firstE_succ (F : Nat → Int) (k : Nat) : firstE F (k + 1) = if firstE F k = 0 then F k else firstE F k := rfl
theorem firstE_step {F : Nat → Int} {k : Nat} (h : firstE F k = 0) : firstE F (k + 1) = F k := by rw [firstE_succ, if_pos h]
theorem firstE_stop {F : Nat → Int} {k m : Nat} (h : firstE F k ≠ 0) (hm : k ≤ m) : firstE F m = firstE F k := by
  induction m with
  | zero => obtain rfl : k = 0 := by omega
            rfl
  | succ m ih =>
    by_cases e : k = m + 1
    · subst e; rfl
    · have := ih (by omega)
      rw [firstE_succ, this, if_neg h]
theorem firstE_hit {F : Nat → Int} {k m : Nat} (h : firstE F k = 0) (h2 : F k ≠ 0) (hm : k < m) : firstE F m = F k := by
  rw [firstE_stop (k := k + 1) (by rw [firstE_step h]; exact h2) hm, firstE_step h]
theorem firstE_all {F : Nat → Int} {m : Nat} : firstE F m = 0 ↔ ∀ k, k < m → F k = 0 := by
  induction m with
  | zero => exact ⟨fun _ k hk => by omega, fun _ => rfl⟩
  | succ m ih =>
    constructor
    · intro h
      rw [firstE_succ] at h
      by_cases e : firstE F m = 0
      · rw [if_pos e] at h
        intro k hk
        by_cases e2 : k = m
        · subst e2; exact h
        · exact ih.1 e k (by omega)
      · rw [if_neg e] at h; exact absurd h e
    · intro h
      rw [firstE_step (ih.2 (fun k hk => h k (by omega)))]
      exact h m (by omega)
theorem firstE_before {F : Nat → Int} {k m : Nat} (h : firstE F m = 0) (hk : k ≤ m) : firstE F k = 0 := firstE_all.2 (fun j hj => firstE_all.1 h j (by omega))
theorem firstE_congr {F G : Nat → Int} {m : Nat} (h : ∀ k, k < m → F k = G k) : firstE F m = firstE G m := by
  induction m with
  | zero => rfl
  | succ m ih => rw [firstE_succ, firstE_succ, ih (fun k hk => h k (by omega)), h m (by omega)]
theorem firstE_mem {F : Nat → Int} {m : Nat} (h : firstE F m ≠ 0) : ∃ k, k < m ∧ F k = firstE F m ∧ firstE F k = 0 := by
  induction m with
  | zero => exact absurd rfl h
  | succ m ih =>
    rw [firstE_succ] at h ⊢
    by_cases e : firstE F m = 0
    · rw [if_pos e] at h ⊢; exact ⟨m, by omega, rfl, e⟩
    · rw [if_neg e] at h ⊢
      obtain ⟨k, hk, h1, h2⟩ := ih e
      exact ⟨k, by omega, h1, h2⟩

end Go.Proofs.YtmopbimineoogaaDoor
