/-
  Deeds in plain words: their text. No program is named here.
-/
import Derived.Test.YtoofalchkedciaaDoorP6TraceBack
import Derived.Test.YtoofalchkedciaaDoorP7TraceBack
namespace Go.Proofs.YtoofalchkedciaaDoor

/-- The words. -/
def wordB (k : Nat) : List UInt8 :=
  ([[], [116, 111, 111, 107], [115, 116, 111, 108, 101], [102, 101, 116, 99, 104, 101, 100], [102, 105, 110, 105, 115, 104, 101, 100], [115, 108, 101, 112, 116], [119, 111, 107, 101]] : List (List UInt8))[k]?.getD []
/-- The fields that stand in a deed's line: which of its four cells they are. -/
def ddPlaces (what : Int) : List Nat := if what = 5 ∨ what = 6 then [1] else if what = 2 then [1, 2, 3] else [1, 2]
def ddField (d : Dd) (j : Nat) : Nat := if j = 1 then d.hand.toNat else if j = 2 then d.task.toNat else d.other.toNat
def numB (n : Nat) : List UInt8 := 32 :: Lib.decDigits n
def ddNums (d : Dd) : List Nat := (ddPlaces d.what).map (ddField d)
/-- A deed's line. -/
def ddText (d : Dd) : List UInt8 := wordB d.what.toNat ++ (ddNums d).flatMap numB ++ [10]
def ddsText (l : List Dd) : List UInt8 := l.flatMap ddText

theorem ddNums_lt {d : Dd} (h : ddFault d = 0) : ∀ n ∈ ddNums d, n < 30 := by
  have hr := dd_right h
  intro n hn
  obtain ⟨j, _, rfl⟩ := List.mem_map.1 hn
  unfold ddField
  split
  · omega
  · split <;> omega
theorem wordB_len (k : Nat) : (wordB k).length ≤ 8 := by
  unfold wordB
  match k with
  | 0 | 1 | 2 | 3 | 4 | 5 | 6 => decide
  | n + 7 => simp
theorem wordB_no10 (k : Nat) : (10 : UInt8) ∉ wordB k := by
  unfold wordB
  match k with
  | 0 | 1 | 2 | 3 | 4 | 5 | 6 => decide
  | n + 7 => simp

theorem digits_le {i : Nat} (h : i < 100) : (Lib.decDigits i).length ≤ 2 := by
  by_cases h1 : i < 10
  · rw [Lib.decDigits_one h1]; simp
  · rw [Lib.decDigits_two h1 h]; simp
theorem numB_len {n : Nat} (h : n < 100) : (numB n).length ≤ 3 := by
  have := digits_le h
  simp [numB]; omega
theorem nums_len (l : List Nat) (h : ∀ n ∈ l, n < 100) : (l.flatMap numB).length ≤ 3 * l.length := by
  induction l with
  | nil => simp
  | cons n l ih =>
    have h1 := ih (fun x hx => h x (by simp [hx]))
    have h2 := numB_len (h n (by simp))
    simp only [List.flatMap_cons, List.length_append, List.length_cons]
    omega
theorem ddPlaces_len (what : Int) : (ddPlaces what).length ≤ 3 := by unfold ddPlaces; split <;> (try split) <;> simp
theorem ddText_len {d : Dd} (h : ddFault d = 0) : (ddText d).length ≤ 18 := by
  have h1 := wordB_len d.what.toNat
  have h2 := nums_len (ddNums d) (fun n hn => by have := ddNums_lt h n hn; omega)
  have h3 := ddPlaces_len d.what
  have h4 : (ddNums d).length = (ddPlaces d.what).length := by simp [ddNums]
  simp only [ddText, List.length_append, List.length_singleton]
  omega
theorem ddsText_len (l : List Dd) (h : ∀ d ∈ l, ddFault d = 0) : (ddsText l).length ≤ 18 * l.length := by
  induction l with
  | nil => simp [ddsText]
  | cons d l ih =>
    have h1 := ih (fun x hx => h x (by simp [hx]))
    have h2 := ddText_len (h d (by simp))
    simp only [ddsText, List.flatMap_cons, List.length_append, List.length_cons] at h1 ⊢
    omega
theorem ddsText_push (l : List Dd) (d : Dd) : ddsText (l ++ [d]) = ddsText l ++ ddText d := by simp [ddsText]

end Go.Proofs.YtoofalchkedciaaDoor
