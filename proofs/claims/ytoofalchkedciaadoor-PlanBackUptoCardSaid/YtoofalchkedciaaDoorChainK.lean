/-
  Tasks one behind the other, and beside each other: they are plans. No program is named here.
-/
import Derived.Test.YtoofalchkedciaaDoorChainP
namespace Go.Proofs.YtoofalchkedciaaDoor

theorem chain_wk (n : Nat) (work : Int) (i : Nat) (h : i < n) : wkOf (chainP n work) i = work := by simp [wkOf, chainP, h, chainT]
theorem chain_nd (n : Nat) (work : Int) (i : Nat) (h : i < n) : ndOf (chainP n work) i = if i = 0 then [] else [(i : Int) - 1] := by simp [ndOf, chainP, h, chainT]
theorem beside_wk (n : Nat) (work : Int) (i : Nat) (h : i < n) : wkOf (besideP n work) i = work := by simp [wkOf, besideP, h]
theorem beside_nd (n : Nat) (work : Int) (i : Nat) : ndOf (besideP n work) i = [] := by
  by_cases h : i < n
  · simp [ndOf, besideP, h]
  · exact ndOf_none _ _ (by rw [besideP_len]; omega)

/-- Where each needs only those ahead of it nobody needs itself. -/
theorem acyc_of {p : PlanL} (h : ∀ i k : Nat, (k : Int) ∈ ndOf p i → k < i) (i k : Nat) (hr : Reach p i k) : k < i := by
  induction hr with
  | one hk => exact h _ _ hk
  | more _ hk ih => have := h _ _ hk; omega

theorem chain_need {n : Nat} {work : Int} {i k : Nat} (h : (k : Int) ∈ ndOf (chainP n work) i) : k < i := by
  by_cases hi : i < n
  · rw [chain_nd _ _ _ hi] at h
    split at h
    · cases h
    · simp at h; omega
  · rw [ndOf_none _ _ (by rw [chainP_len]; omega)] at h; cases h

theorem chain_ok (n : Nat) (work : Int) (hn : n ≤ 30) (h1 : 1 ≤ work) (h2 : work ≤ 20) : PlanOk (chainP n work) := by
  refine ⟨by rw [chainP_len]; exact hn, fun i hi => ?_, fun i hi hr => ?_⟩
  · rw [chainP_len] at hi ⊢
    have e : (chainP n work)[i]?.getD (0, []) = chainT work i := by simp [chainP, hi]
    rw [e]
    unfold taskFault chainT
    have hany : (if i = 0 then ([] : List Int) else [(i : Int) - 1]).any (outOf n) = false := by
      split
      · rfl
      · simp [outOf]; omega
    have hris : rising (if i = 0 then ([] : List Int) else [(i : Int) - 1]) = true := by split <;> rfl
    simp only [hany, hris]
    rw [if_neg (by simp; omega)]
    rfl
  · have := acyc_of (fun i k => chain_need) i i hr
    omega

theorem beside_ok (n : Nat) (work : Int) (hn : n ≤ 30) (h1 : 1 ≤ work) (h2 : work ≤ 20) : PlanOk (besideP n work) := by
  refine ⟨by rw [besideP_len]; exact hn, fun i hi => ?_, fun i hi hr => ?_⟩
  · rw [besideP_len] at hi ⊢
    have e : (besideP n work)[i]?.getD (0, []) = (work, []) := by simp [besideP, hi]
    rw [e]
    unfold taskFault
    rw [if_neg (by simp; omega)]
    rfl
  · have := acyc_of (fun i k h => by rw [beside_nd] at h; cases h) i i hr
    omega

end Go.Proofs.YtoofalchkedciaaDoor
