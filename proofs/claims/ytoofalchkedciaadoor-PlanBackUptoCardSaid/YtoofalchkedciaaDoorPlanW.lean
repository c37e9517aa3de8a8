/-
  Contract of plan.Own.
-/
import Derived.Test.YtoofalchkedciaaDoorPlanA
import Derived.Test.YtoofalchkedciaaDoorClone
namespace Go.Proofs.YtoofalchkedciaaDoor
open Go.RowKit Go.Deep

theorem flatP_at (p : PlanL) (N : Nat → Value) (n j : Nat) (hj : j < n * 2) : (flatP p N n)[j]? = some (if j % 2 = 0 then .int .i64 (wkOf p (j / 2)) else N (j / 2)) := by
  unfold flatP
  rw [List.getElem?_map, List.getElem?_range hj]
  rfl
theorem flatP_one (p : PlanL) (N : Nat → Value) (n : Nat) (h : ∀ i, i < n → (N i).oneCell' = true) : ∀ y ∈ flatP p N n, y.oneCell' = true := by
  intro y hy
  unfold flatP at hy
  obtain ⟨j, hj, rfl⟩ := List.mem_map.1 hy
  have hj' : j < n * 2 := by simpa using hj
  split
  · rfl
  · exact h _ (by omega)
theorem flatP_set (p : PlanL) (N : Nat → Value) (n i : Nat) (u : Value) (h : i < n) : (flatP p N n).set (i * 2 + 1) u = flatP p (updV N i u) n := by
  apply List.ext_getElem?
  intro j
  by_cases hj : j < n * 2
  · by_cases e : j = i * 2 + 1
    · subst e
      rw [flatP_1 _ _ _ _ h, List.getElem?_set_self (by rw [flatP_len]; omega)]
      simp [updV]
    · rw [List.getElem?_set_ne (Ne.symm e), flatP_at _ _ _ _ hj, flatP_at _ _ _ _ hj]
      split
      · rfl
      · rw [updV, if_neg (by omega)]
  · rw [List.getElem?_eq_none (by rw [List.length_set, flatP_len]; omega), List.getElem?_eq_none (by rw [flatP_len]; omega)]

theorem pairs_at {w : World} {v : Value} {n : Nat} {p : PlanL} {N : Nat → Value} (h : Pairs w v n (fun i => .int .i64 (wkOf p i)) N) (h1 : ∀ i, i < n → (N i).oneCell' = true) : RowAt w v n 2 (flatP p N n) := by
  obtain ⟨a, cap, rfl, hl, hm, h0, h3⟩ := h
  refine ⟨flatP_len _ _ _, flatP_one _ _ _ h1, ?_⟩
  by_cases e : n = 0
  · subst e
    left
    refine ⟨rfl, ?_⟩
    cases a with
    | none => left; rw [h0 rfl]
    | some x => exact .inr ⟨x, cap, rfl⟩
  · obtain ⟨b, off, rfl, _, _⟩ := h3 0 (by omega)
    refine .inr ⟨by omega, b, off, cap, rfl, fun j y hy => ?_⟩
    have hj : j < n * 2 := by
      rcases Nat.lt_or_ge j (n * 2) with hl | hl
      · exact hl
      · rw [List.getElem?_eq_none (by rw [flatP_len]; exact hl)] at hy; cases hy
    obtain ⟨b', off', hb, k0, k1⟩ := h3 (j / 2) (by omega)
    injection hb with hb
    injection hb with e1 e2
    subst e1 e2
    rw [flatP_at _ _ _ _ hj] at hy
    injection hy with hy
    subst hy
    split
    · rw [show off + j / 2 * 2 = off + j by omega] at k0; exact k0
    · rw [show off + j / 2 * 2 + 1 = off + j by omega] at k1; exact k1



end Go.Proofs.YtoofalchkedciaaDoor
