/-
  Keys of maps that are ints.
  The first fault of a row of tests. No program is named here.
-/
import Derived.Test.YtadjcooemeaaeaaDoorP25JudgeChain
import Derived.Test.YtadjcooemeaaeaaDoorRows
import Derived.Test.YtadjcooemeaaeaaDoorP1JudgeChain
namespace Go.Proofs.YtadjcooemeaaeaaDoor
open Go.RowKit Go.Maps

theorem key_int : Keyed Tryd.prog 3 := int_keyed Tryd.underlying3
theorem keyOf_int (k : Int) (h1 : -9223372036854775808 ≤ k) (h2 : k ≤ 9223372036854775807) : keyOf Tryd.prog 3 (.int .i64 k) = some (.int .i64 k) :=
  keyOf_int_mk Tryd.underlying3 (WalkArith.wf_i64 ⟨h1, h2⟩)
theorem zero_bool (w : World) : (zeroValue 4).run Tryd.prog w = .ok (.bool false) w := by kernel_rfl

end Go.Proofs.YtadjcooemeaaeaaDoor

namespace Go.Proofs.YtadjcooemeaaeaaDoor

/-- The first fault among the first k. -/
def firstE (F : Nat → Int) : Nat → Int
  | 0 => 0
  | k + 1 => if firstE F k = 0 then F k else firstE F k

theorem firstE_zero (F : Nat → Int) : firstE F 0 = 0 := rfl
theorem firstE_succ (F : Nat → Int) (k : Nat) : firstE F (k + 1) = if firstE F k = 0 then F k else firstE F k := rfl
theorem firstE_step {F : Nat → Int} {k : Nat} (h : firstE F k = 0) : firstE F (k + 1) = F k := by rw [firstE_succ, if_pos h]
theorem firstE_stop {F : Nat → Int} {k m : Nat} (h : firstE F k ≠ 0) (hm : k ≤ m) : firstE F m = firstE F k := by
  induction m with
  | zero => obtain rfl : k = 0 := by omega
            rfl
  | succ m ih =>
    by_cases e : k = m + 1
    · subst e; rfl
    · have := ih (by omega)
      rw [firstE_succ, this, if_neg h]
theorem firstE_hit {F : Nat → Int} {k m : Nat} (h : firstE F k = 0) (h2 : F k ≠ 0) (hm : k < m) : firstE F m = F k := by
  rw [firstE_stop (k := k + 1) (by rw [firstE_step h]; exact h2) hm, firstE_step h]
theorem firstE_all {F : Nat → Int} {m : Nat} : firstE F m = 0 ↔ ∀ k, k < m → F k = 0 := by
  induction m with
  | zero => exact ⟨fun _ k hk => by omega, fun _ => rfl⟩
  | succ m ih =>
    constructor
    · intro h
      rw [firstE_succ] at h
      by_cases e : firstE F m = 0
      · rw [if_pos e] at h
        intro k hk
        by_cases e2 : k = m
        · subst e2; exact h
        · exact ih.1 e k (by omega)
      · rw [if_neg e] at h; exact absurd h e
    · intro h
      rw [firstE_step (ih.2 (fun k hk => h k (by omega)))]
      exact h m (by omega)
theorem firstE_before {F : Nat → Int} {k m : Nat} (h : firstE F m = 0) (hk : k ≤ m) : firstE F k = 0 := firstE_all.2 (fun j hj => firstE_all.1 h j (by omega))
theorem firstE_congr {F G : Nat → Int} {m : Nat} (h : ∀ k, k < m → F k = G k) : firstE F m = firstE G m := by
  induction m with
  | zero => rfl
  | succ m ih => rw [firstE_succ, firstE_succ, ih (fun k hk => h k (by omega)), h m (by omega)]
theorem firstE_mem {F : Nat → Int} {m : Nat} (h : firstE F m ≠ 0) : ∃ k, k < m ∧ F k = firstE F m ∧ firstE F k = 0 := by
  induction m with
  | zero => exact absurd rfl h
  | succ m ih =>
    rw [firstE_succ] at h ⊢
    by_cases e : firstE F m = 0
    · rw [if_pos e] at h ⊢; exact ⟨m, by omega, rfl, e⟩
    · rw [if_neg e] at h ⊢
      obtain ⟨k, hk, h1, h2⟩ := ih e
      exact ⟨k, by omega, h1, h2⟩

end Go.Proofs.YtadjcooemeaaeaaDoor
