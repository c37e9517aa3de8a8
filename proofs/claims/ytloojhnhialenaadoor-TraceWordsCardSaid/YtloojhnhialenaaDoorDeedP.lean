/-
  Deeds in plain words: their fault, their text. No program is named here.
-/
import Derived.Test.YtloojhnhialenaaDoorDeeds
import Derived.Test.YtloojhnhialenaaDoorShelf
namespace Go.Proofs.YtloojhnhialenaaDoor

def aloneB (what : Int) : Bool := decide (what = 5 ∨ what = 6)
/-- What is wrong with a deed. -/
def ddFault (d : Dd) : Int :=
  if d.what < 1 ∨ 6 < d.what ∨ d.hand < 0 ∨ 6 ≤ d.hand ∨ d.task < 0 ∨ 30 ≤ d.task ∨ (d.what = 2 ∧ (d.other < 0 ∨ 6 ≤ d.other)) then 1
  else if (d.what ≠ 2 ∧ d.other ≠ 0) ∨ ((d.what = 5 ∨ d.what = 6) ∧ d.task ≠ 0) then 3 else 0
/-- The first fault. -/
def firstDd : List Dd → Int
  | [] => 0
  | d :: l => if ddFault d = 0 then firstDd l else ddFault d
/-- What is wrong with deeds. -/
def ddsFault (l : List Dd) : Int := if 1000 < l.length then 4 else firstDd l

theorem firstDd_drop (l : List Dd) (i : Nat) (h : i < l.length) : firstDd (l.drop i) = if ddFault (ddAt l i) = 0 then firstDd (l.drop (i + 1)) else ddFault (ddAt l i) := by
  rw [List.drop_eq_getElem_cons h]
  simp [firstDd, ddAt, h]

theorem firstDd_zero (l : List Dd) : firstDd l = 0 ↔ ∀ d ∈ l, ddFault d = 0 := by
  induction l with
  | nil => simp [firstDd]
  | cons d l ih =>
    unfold firstDd
    by_cases h : ddFault d = 0
    · rw [if_pos h, ih]; simp [h]
    · rw [if_neg h]; simp [h]

/-- The ways a deed may be: wrong by range, by shape, or right. -/
theorem dd_range {d : Dd} (h : ddFault d = 1) : d.what < 1 ∨ (1 ≤ d.what ∧ 6 < d.what) ∨ (1 ≤ d.what ∧ d.what ≤ 6 ∧ d.hand < 0) ∨ (1 ≤ d.what ∧ d.what ≤ 6 ∧ 0 ≤ d.hand ∧ 6 ≤ d.hand) ∨ (1 ≤ d.what ∧ d.what ≤ 6 ∧ 0 ≤ d.hand ∧ d.hand < 6 ∧ d.task < 0) ∨
    (1 ≤ d.what ∧ d.what ≤ 6 ∧ 0 ≤ d.hand ∧ d.hand < 6 ∧ 0 ≤ d.task ∧ 30 ≤ d.task) ∨ (d.what = 2 ∧ 0 ≤ d.hand ∧ d.hand < 6 ∧ 0 ≤ d.task ∧ d.task < 30 ∧ d.other < 0) ∨ (d.what = 2 ∧ 0 ≤ d.hand ∧ d.hand < 6 ∧ 0 ≤ d.task ∧ d.task < 30 ∧ 0 ≤ d.other ∧ 6 ≤ d.other) := by
  unfold ddFault at h
  split at h
  · omega
  · split at h <;> omega
theorem dd_shape {d : Dd} (h : ddFault d = 3) : 1 ≤ d.what ∧ d.what ≤ 6 ∧ 0 ≤ d.hand ∧ d.hand < 6 ∧ 0 ≤ d.task ∧ d.task < 30 ∧ ((d.what ≠ 2 ∧ d.other ≠ 0) ∨ (d.what = 5 ∧ d.other = 0 ∧ d.task ≠ 0) ∨ (d.what = 6 ∧ d.other = 0 ∧ d.task ≠ 0)) := by
  unfold ddFault at h
  split at h
  · omega
  · split at h <;> omega
theorem dd_right {d : Dd} (h : ddFault d = 0) : 1 ≤ d.what ∧ d.what ≤ 6 ∧ 0 ≤ d.hand ∧ d.hand < 6 ∧ 0 ≤ d.task ∧ d.task < 30 ∧ ((d.what = 2 ∧ 0 ≤ d.other ∧ d.other < 6) ∨ (d.what = 5 ∧ d.other = 0 ∧ d.task = 0) ∨ (d.what = 6 ∧ d.other = 0 ∧ d.task = 0) ∨ (d.what ≠ 2 ∧ d.what ≠ 5 ∧ d.what ≠ 6 ∧ d.other = 0)) := by
  unfold ddFault at h
  split at h
  · omega
  · split at h <;> omega
theorem dd_three (d : Dd) : ddFault d = 1 ∨ ddFault d = 3 ∨ ddFault d = 0 := by
  unfold ddFault
  split
  · exact .inl rfl
  · split
    · exact .inr (.inl rfl)
    · exact .inr (.inr rfl)

/-- The words. -/
def wordB (k : Nat) : List UInt8 :=
  ([[], [116, 111, 111, 107], [115, 116, 111, 108, 101], [102, 101, 116, 99, 104, 101, 100], [102, 105, 110, 105, 115, 104, 101, 100], [115, 108, 101, 112, 116], [119, 111, 107, 101]] : List (List UInt8))[k]?.getD []
/-- The fields that stand in a deed's line: which of its four cells they are. -/
def ddPlaces (what : Int) : List Nat := if what = 5 ∨ what = 6 then [1] else if what = 2 then [1, 2, 3] else [1, 2]
def ddField (d : Dd) (j : Nat) : Nat := if j = 1 then d.hand.toNat else if j = 2 then d.task.toNat else d.other.toNat
def numB (n : Nat) : List UInt8 := 32 :: Lib.decDigits n
def ddNums (d : Dd) : List Nat := (ddPlaces d.what).map (ddField d)
/-- A deed's line. -/
def ddText (d : Dd) : List UInt8 := wordB d.what.toNat ++ (ddNums d).flatMap numB ++ [10]
def ddsText (l : List Dd) : List UInt8 := l.flatMap ddText

theorem ddNums_lt {d : Dd} (h : ddFault d = 0) : ∀ n ∈ ddNums d, n < 30 := by
  have hr := dd_right h
  intro n hn
  obtain ⟨j, _, rfl⟩ := List.mem_map.1 hn
  unfold ddField
  split
  · omega
  · split <;> omega
theorem wordB_len (k : Nat) : (wordB k).length ≤ 8 := by
  unfold wordB
  match k with
  | 0 | 1 | 2 | 3 | 4 | 5 | 6 => decide
  | n + 7 => simp
theorem wordB_no10 (k : Nat) : (10 : UInt8) ∉ wordB k := by
  unfold wordB
  match k with
  | 0 | 1 | 2 | 3 | 4 | 5 | 6 => decide
  | n + 7 => simp

theorem digits_le {i : Nat} (h : i < 100) : (Lib.decDigits i).length ≤ 2 := by
  by_cases h1 : i < 10
  · rw [Lib.decDigits_one h1]; simp
  · rw [Lib.decDigits_two h1 h]; simp
theorem numB_len {n : Nat} (h : n < 100) : (numB n).length ≤ 3 := by
  have := digits_le h
  simp [numB]; omega
theorem nums_len (l : List Nat) (h : ∀ n ∈ l, n < 100) : (l.flatMap numB).length ≤ 3 * l.length := by
  induction l with
  | nil => simp
  | cons n l ih =>
    have h1 := ih (fun x hx => h x (by simp [hx]))
    have h2 := numB_len (h n (by simp))
    simp only [List.flatMap_cons, List.length_append, List.length_cons]
    omega
theorem ddPlaces_len (what : Int) : (ddPlaces what).length ≤ 3 := by unfold ddPlaces; split <;> (try split) <;> simp
theorem ddText_len {d : Dd} (h : ddFault d = 0) : (ddText d).length ≤ 18 := by
  have h1 := wordB_len d.what.toNat
  have h2 := nums_len (ddNums d) (fun n hn => by have := ddNums_lt h n hn; omega)
  have h3 := ddPlaces_len d.what
  have h4 : (ddNums d).length = (ddPlaces d.what).length := by simp [ddNums]
  simp only [ddText, List.length_append, List.length_singleton]
  omega
theorem ddsText_len (l : List Dd) (h : ∀ d ∈ l, ddFault d = 0) : (ddsText l).length ≤ 18 * l.length := by
  induction l with
  | nil => simp [ddsText]
  | cons d l ih =>
    have h1 := ih (fun x hx => h x (by simp [hx]))
    have h2 := ddText_len (h d (by simp))
    simp only [ddsText, List.flatMap_cons, List.length_append, List.length_cons] at h1 ⊢
    omega
theorem ddsText_push (l : List Dd) (d : Dd) : ddsText (l ++ [d]) = ddsText l ++ ddText d := by simp [ddsText]

end Go.Proofs.YtloojhnhialenaaDoor
