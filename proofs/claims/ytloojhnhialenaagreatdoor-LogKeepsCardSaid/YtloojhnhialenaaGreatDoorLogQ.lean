/-
  What a crash leaves of a log's bytes, in plain words.
-/
import Derived.Test.YtloojhnhialenaaGreatDoorLogP
import Derived.Test.YtloojhnhialenaaGreatDoorAtoiD
import Derived.Test.YtloojhnhialenaaGreatDoorLines
import Derived.Lib.LastIndexByte
import Derived.Lib.Strings
namespace Go.Proofs.YtloojhnhialenaaGreatDoor

theorem digits_dig {i : Nat} (h : i < 100) : (Lib.decDigits i).all isDig = true := by
  by_cases h1 : i < 10
  · rw [Lib.decDigits_one h1]
    simp [isDig]; omega
  · rw [Lib.decDigits_two h1 h]
    simp [isDig]; omega
theorem digits_val {i : Nat} (h : i < 100) : digV (Lib.decDigits i) = i := by
  by_cases h1 : i < 10
  · rw [Lib.decDigits_one h1]
    simp [digV]; omega
  · rw [Lib.decDigits_two h1 h]
    simp [digV]; omega
theorem digits_ne (i : Nat) (h : i < 100) : Lib.decDigits i ≠ [] := by
  by_cases h1 : i < 10
  · rw [Lib.decDigits_one h1]; simp
  · rw [Lib.decDigits_two h1 h]; simp
theorem dig_no10 {l : List UInt8} (h : l.all isDig = true) : (10 : UInt8) ∉ l := fun hm => by
  have := List.all_eq_true.1 h _ hm
  simp [isDig] at this

theorem trim_line (i : Nat) : Lib.trimSuffix (lineOf i) [10] = Lib.decDigits i := by
  unfold Lib.trimSuffix lineOf
  rw [if_pos]
  · simp
  · simp [Lib.hasSuffix]

theorem line_cons (d : List UInt8) (h : (10 : UInt8) ∉ d) (r : List UInt8) : linesOf (d ++ 10 :: r) = (d ++ [10]) :: linesOf r := by
  induction d with
  | nil => simp [linesOf]
  | cons a d ih =>
    have ha : a ≠ 10 := fun e => h (by simp [e])
    have := ih (fun hm => h (by simp [hm]))
    show linesOf (a :: (d ++ 10 :: r)) = _
    rw [linesOf, if_neg ha, this]
    simp
theorem lines_text (l : List Nat) (h : ∀ i ∈ l, i < 100) : linesOf (textOf l) = l.map lineOf := by
  induction l with
  | nil => rfl
  | cons i l ih =>
    have h1 := ih (fun j hj => h j (by simp [hj]))
    have e : textOf (i :: l) = Lib.decDigits i ++ 10 :: textOf l := by simp [textOf, lineOf]
    rw [e, line_cons _ (dig_no10 (digits_dig (h i (by simp)))), h1]
    simp [lineOf]

/-- How many lines are whole among so many bytes. -/
def keepN : List Nat → Nat → Nat
  | [], _ => 0
  | i :: l, m => if (lineOf i).length ≤ m then keepN l (m - (lineOf i).length) + 1 else 0

theorem keepN_le : ∀ (l : List Nat) (m : Nat), keepN l m ≤ l.length := by
  intro l
  induction l with
  | nil => intro m; exact Nat.le_refl _
  | cons i l ih =>
    intro m
    unfold keepN
    split
    · have := ih (m - (lineOf i).length); simp; omega
    · simp

theorem keep_split (part : List UInt8) (hp : (10 : UInt8) ∉ part) : ∀ (l : List Nat) (m : Nat), (∀ i ∈ l, i < 100) → ∃ y, (textOf l ++ part).take m = textOf (l.take (keepN l m)) ++ y ∧ (10 : UInt8) ∉ y := by
  intro l
  induction l with
  | nil =>
    intro m _
    exact ⟨part.take m, by simp [textOf, keepN], fun h => hp (List.mem_of_mem_take h)⟩
  | cons i l ih =>
    intro m h
    have e : textOf (i :: l) = lineOf i ++ textOf l := by simp [textOf]
    unfold keepN
    by_cases hm : (lineOf i).length ≤ m
    · rw [if_pos hm]
      obtain ⟨y, h1, h2⟩ := ih (m - (lineOf i).length) (fun j hj => h j (by simp [hj]))
      refine ⟨y, ?_, h2⟩
      rw [e, List.append_assoc, List.take_append, List.take_of_length_le hm, h1]
      simp [textOf]
    · rw [if_neg hm]
      refine ⟨(Lib.decDigits i).take m, ?_, fun hx => dig_no10 (digits_dig (h i (by simp))) (List.mem_of_mem_take hx)⟩
      rw [e, List.append_assoc, List.take_append_of_le_length (by omega)]
      unfold lineOf at hm ⊢
      rw [List.take_append_of_le_length (by simp at hm; omega)]
      simp [textOf]

theorem text_end (l : List Nat) : textOf l = [] ∨ ∃ t, textOf l = t ++ [10] := by
  rcases List.eq_nil_or_concat l with rfl | ⟨l', i, rfl⟩
  · left; rfl
  · right
    rw [List.concat_eq_append, textOf_push]
    exact ⟨textOf l' ++ Lib.decDigits i, by simp [lineOf]⟩

theorem cut_at (b T y : List UInt8) (hb : b = T ++ y) (hT : T = [] ∨ ∃ t, T = t ++ [10]) (hy : (10 : UInt8) ∉ y) (ix : Int)
    (hix : (ix = -1 ∧ ∀ (j : Nat) (x : UInt8), b[j]? = some x → x ≠ 10) ∨ (∃ i : Nat, ix = i ∧ b[i]? = some 10 ∧ ∀ j : Nat, i < j → ∀ x : UInt8, b[j]? = some x → x ≠ 10)) : ix + 1 = (T.length : Int) := by
  subst hb
  rcases hT with rfl | ⟨t, rfl⟩
  · rcases hix with ⟨rfl, _⟩ | ⟨i, rfl, h1, _⟩
    · rfl
    · exfalso
      rw [List.nil_append] at h1
      exact hy (List.mem_of_getElem? h1)
  · have hat : ((t ++ [10]) ++ y)[t.length]? = some 10 := by simp
    rcases hix with ⟨rfl, h⟩ | ⟨i, rfl, h1, h2⟩
    · exact absurd rfl (h _ _ hat)
    · rcases Nat.lt_trichotomy i t.length with hl | hl | hl
      · exact absurd rfl (h2 _ hl _ hat)
      · simp; omega
      · exfalso
        rw [List.getElem?_append_right (by simp; omega)] at h1
        exact hy (List.mem_of_getElem? h1)

theorem last10 (s : ByteArray) : (Lib.lastIndexByte s 10 = -1 ∧ ∀ (j : Nat) (x : UInt8), s.data.toList[j]? = some x → x ≠ 10) ∨ (∃ i : Nat, Lib.lastIndexByte s 10 = i ∧ s.data.toList[i]? = some 10 ∧ ∀ j : Nat, i < j → ∀ x : UInt8, s.data.toList[j]? = some x → x ≠ 10) := by
  have hne : ∀ (j : Nat) (x : UInt8), ((s.data[j]!).toNat : Int) ≠ 10 → s.data.toList[j]? = some x → x ≠ 10 := fun j x h1 h2 e => by
    subst e
    rw [Array.getElem?_toList] at h2
    have : s.data[j]! = 10 := by rw [getElem!_def, h2]
    rw [this] at h1
    exact h1 rfl
  have hlt : ∀ (j : Nat) (x : UInt8), s.data.toList[j]? = some x → j < s.size := fun j x h => by
    have := (List.getElem?_eq_some_iff.1 h).1
    rw [Array.length_toList] at this
    exact this
  rcases Lib.lastIndexByte_spec s 10 with ⟨h1, h2⟩ | ⟨i, h1, h2, h3, h4⟩
  · exact .inl ⟨h1, fun j x h => hne j x (h2 j (hlt j x h)) h⟩
  · refine .inr ⟨i, h2, ?_, fun j hj x h => hne j x (h4 j hj (hlt j x h)) h⟩
    rw [Array.getElem?_toList, Array.getElem?_eq_getElem h1]
    have h5 : s.data[i]! = s.data[i] := getElem!_pos s.data i h1
    rw [h5] at h3
    congr 1
    exact UInt8.toNat_inj.1 (by rw [show ((10 : UInt8).toNat) = 10 from rfl]; omega)

end Go.Proofs.YtloojhnhialenaaGreatDoor
