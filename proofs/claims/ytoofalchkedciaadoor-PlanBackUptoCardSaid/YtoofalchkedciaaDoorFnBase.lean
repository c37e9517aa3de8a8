/-
  The first place of a list at which a test says yes.
-/
import Derived.Test.YtoofalchkedciaaDoorMore
namespace Go.Proofs.YtoofalchkedciaaDoor

/-- The first place; -1, if there is none. -/
def firstIdx (P : Int → Bool) : List Int → Int
  | [] => -1
  | x :: l => if P x then 0 else if firstIdx P l < 0 then -1 else firstIdx P l + 1

theorem firstIdx_ge (P : Int → Bool) (l : List Int) : -1 ≤ firstIdx P l := by
  induction l with
  | nil => exact Int.le_refl _
  | cons x l ih =>
    unfold firstIdx
    split
    · omega
    · split <;> omega

theorem firstIdx_any (P : Int → Bool) (l : List Int) : decide (0 ≤ firstIdx P l) = l.any P := by
  induction l with
  | nil => rfl
  | cons x l ih =>
    unfold firstIdx
    rw [List.any_cons]
    cases hx : P x
    · rw [if_neg (by simp), Bool.false_or, ← ih]
      have := firstIdx_ge P l
      split
      · simp; omega
      · simp; omega
    · simp

theorem firstIdx_none (P : Int → Bool) (l : List Int) (h : ∀ j, j < l.length → P (nth l j) = false) : firstIdx P l = -1 := by
  have ha := firstIdx_any P l
  have hf : l.any P = false := by
    rw [List.any_eq_false]
    intro x hx
    obtain ⟨j, hj, rfl⟩ := List.getElem_of_mem hx
    have := h j hj
    simpa [nth, hj] using this
  rw [hf] at ha
  have := firstIdx_ge P l
  simp at ha
  omega

theorem firstIdx_at (P : Int → Bool) (l : List Int) (i : Nat) (hi : i < l.length) (h : ∀ j, j < i → P (nth l j) = false) (hp : P (nth l i) = true) : firstIdx P l = i := by
  induction l generalizing i with
  | nil => simp at hi
  | cons x l ih =>
    unfold firstIdx
    rcases i with _ | i
    · have : P x = true := by simpa [nth] using hp
      simp [this]
    · have h0 : P x = false := by simpa [nth] using h 0 (by omega)
      have := ih i (by simpa using hi) (fun j hj => by simpa [nth] using h (j + 1) (by omega)) (by simpa [nth] using hp)
      rw [if_neg (by simp [h0]), this, if_neg (by omega)]
      rfl

end Go.Proofs.YtoofalchkedciaaDoor
