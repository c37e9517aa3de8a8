/-
  Deeds in plain words: their text. No program is named here.
  Weaves in plain words: how a text is read. No program is named here.
  Numbers as text, in plain words: which texts are numbers of at most so many digits.
  Slices of texts of the call's own; a text cut at a byte.
  Plans as text, in plain words.
-/
import Derived.Test.YtoofalchkedciaaGreatDoorP14TopGang
import Derived.Test.YtoofalchkedciaaGreatDoorP36TopGang
import Derived.Test.YtoofalchkedciaaGreatDoorP1TopGang
import Derived.Lib.ItoaNum
import Derived.Test.YtoofalchkedciaaGreatDoorP23TopGang
import Derived.Test.YtoofalchkedciaaGreatDoorP6TopGang
namespace Go.Proofs.YtoofalchkedciaaGreatDoor

/-- The words. -/
def wordB (k : Nat) : List UInt8 :=
  ([[], [116, 111, 111, 107], [115, 116, 111, 108, 101], [102, 101, 116, 99, 104, 101, 100], [102, 105, 110, 105, 115, 104, 101, 100], [115, 108, 101, 112, 116], [119, 111, 107, 101]] : List (List UInt8))[k]?.getD []
/-- The fields that stand in a deed's line: which of its four cells they are. -/
def ddPlaces (what : Int) : List Nat := if what = 5 ∨ what = 6 then [1] else if what = 2 then [1, 2, 3] else [1, 2]
def ddField (d : Dd) (j : Nat) : Nat := if j = 1 then d.hand.toNat else if j = 2 then d.task.toNat else d.other.toNat
def numB (n : Nat) : List UInt8 := 32 :: Lib.decDigits n
def ddNums (d : Dd) : List Nat := (ddPlaces d.what).map (ddField d)
/-- A deed's line. -/
def ddText (d : Dd) : List UInt8 := wordB d.what.toNat ++ (ddNums d).flatMap numB ++ [10]
def ddsText (l : List Dd) : List UInt8 := l.flatMap ddText

theorem ddNums_lt {d : Dd} (h : ddFault d = 0) : ∀ n ∈ ddNums d, n < 30 := by
  have hr := dd_right h
  intro n hn
  obtain ⟨j, _, rfl⟩ := List.mem_map.1 hn
  unfold ddField
  split
  · omega
  · split <;> omega
theorem wordB_len (k : Nat) : (wordB k).length ≤ 8 := by
  unfold wordB
  match k with
  | 0 | 1 | 2 | 3 | 4 | 5 | 6 => decide
  | n + 7 => simp
theorem wordB_no10 (k : Nat) : (10 : UInt8) ∉ wordB k := by
  unfold wordB
  match k with
  | 0 | 1 | 2 | 3 | 4 | 5 | 6 => decide
  | n + 7 => simp

theorem digits_le {i : Nat} (h : i < 100) : (Lib.decDigits i).length ≤ 2 := by
  by_cases h1 : i < 10
  · rw [Lib.decDigits_one h1]; simp
  · rw [Lib.decDigits_two h1 h]; simp
theorem numB_len {n : Nat} (h : n < 100) : (numB n).length ≤ 3 := by
  have := digits_le h
  simp [numB]; omega
theorem nums_len (l : List Nat) (h : ∀ n ∈ l, n < 100) : (l.flatMap numB).length ≤ 3 * l.length := by
  induction l with
  | nil => simp
  | cons n l ih =>
    have h1 := ih (fun x hx => h x (by simp [hx]))
    have h2 := numB_len (h n (by simp))
    simp only [List.flatMap_cons, List.length_append, List.length_cons]
    omega
theorem ddPlaces_len (what : Int) : (ddPlaces what).length ≤ 3 := by unfold ddPlaces; split <;> (try split) <;> simp
theorem ddText_len {d : Dd} (h : ddFault d = 0) : (ddText d).length ≤ 18 := by
  have h1 := wordB_len d.what.toNat
  have h2 := nums_len (ddNums d) (fun n hn => by have := ddNums_lt h n hn; omega)
  have h3 := ddPlaces_len d.what
  have h4 : (ddNums d).length = (ddPlaces d.what).length := by simp [ddNums]
  simp only [ddText, List.length_append, List.length_singleton]
  omega
theorem ddsText_len (l : List Dd) (h : ∀ d ∈ l, ddFault d = 0) : (ddsText l).length ≤ 18 * l.length := by
  induction l with
  | nil => simp [ddsText]
  | cons d l ih =>
    have h1 := ih (fun x hx => h x (by simp [hx]))
    have h2 := ddText_len (h d (by simp))
    simp only [ddsText, List.flatMap_cons, List.length_append, List.length_cons] at h1 ⊢
    omega
theorem ddsText_push (l : List Dd) (d : Dd) : ddsText (l ++ [d]) = ddsText l ++ ddText d := by simp [ddsText]

end Go.Proofs.YtoofalchkedciaaGreatDoor

namespace Go.Proofs.YtoofalchkedciaaGreatDoor

/-- A weave: a task, one behind the other, beside each other. -/
inductive Wv where
  | num (n : Int) : Wv
  | seq (a b : Wv) : Wv
  | par (a b : Wv) : Wv

def isDig (c : UInt8) : Bool := decide (48 ≤ c.toNat) && decide (c.toNat ≤ 57)
/-- What digits come to. -/
def digV (l : List UInt8) : Nat := l.foldl (fun n c => n * 10 + (c.toNat - 48)) 0
/-- .. where what is more than 20 is 21. -/
def numV (l : List UInt8) : Int := if digV l ≤ 20 then (digV l : Int) else 21

def pNum (s : List UInt8) : Option (Wv × List UInt8) :=
  if (s.takeWhile isDig).isEmpty || s.head? == some 48 then none else some (.num (numV (s.takeWhile isDig)), s.dropWhile isDig)

/-- Is the next byte one? -/
def isC (c : UInt8) (s : List UInt8) : Bool := s.head? == some c

mutual
/-- A number, or a weave in signs. -/
def pOne : Nat → List UInt8 → Option (Wv × List UInt8)
  | 0, _ => none
  | f + 1, s => if isC 40 s then (pBeside f s.tail).bind (fun x => if isC 41 x.2 then some (x.1, x.2.tail) else none) else pNum s
/-- One behind the other. -/
def pBehind : Nat → List UInt8 → Option (Wv × List UInt8)
  | 0, _ => none
  | f + 1, s => (pOne f s).bind (fun x => pSemi f x.1 x.2)
def pSemi : Nat → Wv → List UInt8 → Option (Wv × List UInt8)
  | 0, _, _ => none
  | f + 1, a, s => if isC 59 s then (pOne f s.tail).bind (fun x => pSemi f (.seq a x.1) x.2) else some (a, s)
/-- Beside each other. -/
def pBeside : Nat → List UInt8 → Option (Wv × List UInt8)
  | 0, _ => none
  | f + 1, s => (pBehind f s).bind (fun x => pBar f x.1 x.2)
def pBar : Nat → Wv → List UInt8 → Option (Wv × List UInt8)
  | 0, _, _ => none
  | f + 1, a, s => if isC 124 s then (pBehind f s.tail).bind (fun x => pBar f (.par a x.1) x.2) else some (a, s)
end

/-- All that is read is shorter. -/
theorem pNum_len {s r : List UInt8} {a : Wv} (h : pNum s = some (a, r)) : r.length < s.length := by
  unfold pNum at h
  split at h
  · cases h
  · rename_i hn
    injection h with h
    injection h with _ h
    subst h
    have h1 : (s.takeWhile isDig) ≠ [] := by
      intro e; rw [e] at hn; simp at hn
    have h2 : (s.takeWhile isDig ++ s.dropWhile isDig).length = s.length := by rw [List.takeWhile_append_dropWhile]
    rw [List.length_append] at h2
    have := List.length_pos_iff.2 h1
    omega

theorem isC_len {c : UInt8} {s : List UInt8} (h : isC c s = true) : s.tail.length + 1 = s.length := by
  cases s with
  | nil => simp [isC] at h
  | cons a l => simp

theorem bind_some {α β : Type} {x : Option α} {f : α → Option β} {b : β} (h : x.bind f = some b) : ∃ a, x = some a ∧ f a = some b := by
  cases x with
  | none => cases h
  | some a => exact ⟨a, rfl, h⟩

theorem p_len : ∀ f : Nat, (∀ s a r, pOne f s = some (a, r) → r.length < s.length) ∧ (∀ s a r, pBehind f s = some (a, r) → r.length < s.length) ∧
    (∀ b s a r, pSemi f b s = some (a, r) → r.length ≤ s.length) ∧ (∀ s a r, pBeside f s = some (a, r) → r.length < s.length) ∧ (∀ b s a r, pBar f b s = some (a, r) → r.length ≤ s.length) := by
  intro f
  induction f with
  | zero => exact ⟨by simp [pOne], by simp [pBehind], by simp [pSemi], by simp [pBeside], by simp [pBar]⟩
  | succ f ih =>
    obtain ⟨i1, i2, i3, i4, i5⟩ := ih
    refine ⟨?_, ?_, ?_, ?_, ?_⟩
    · intro s a r h
      unfold pOne at h
      split at h
      · rename_i hc
        obtain ⟨x, h1, h2⟩ := bind_some h
        split at h2
        · rename_i hd
          injection h2 with h2
          injection h2 with _ h2
          have l1 := i4 _ _ _ h1
          have l2 := isC_len hc
          have l3 := isC_len hd
          rw [h2] at l3
          omega
        · cases h2
      · exact pNum_len h
    · intro s a r h
      unfold pBehind at h
      obtain ⟨x, h1, h2⟩ := bind_some h
      have l1 := i1 _ _ _ h1
      have l2 := i3 _ _ _ _ h2
      omega
    · intro b s a r h
      unfold pSemi at h
      split at h
      · rename_i hc
        obtain ⟨x, h1, h2⟩ := bind_some h
        have l1 := i1 _ _ _ h1
        have l2 := i3 _ _ _ _ h2
        have l3 := isC_len hc
        omega
      · injection h with h
        injection h with _ h
        rw [h]; exact Nat.le_refl _
    · intro s a r h
      unfold pBeside at h
      obtain ⟨x, h1, h2⟩ := bind_some h
      have l1 := i2 _ _ _ h1
      have l2 := i5 _ _ _ _ h2
      omega
    · intro b s a r h
      unfold pBar at h
      split at h
      · rename_i hc
        obtain ⟨x, h1, h2⟩ := bind_some h
        have l1 := i2 _ _ _ h1
        have l2 := i5 _ _ _ _ h2
        have l3 := isC_len hc
        omega
      · injection h with h
        injection h with _ h
        rw [h]; exact Nat.le_refl _

/-- More fuel turns nothing. -/
theorem p_more : ∀ f : Nat, (∀ s x, pOne f s = some x → pOne (f + 1) s = some x) ∧ (∀ s x, pBehind f s = some x → pBehind (f + 1) s = some x) ∧
    (∀ b s x, pSemi f b s = some x → pSemi (f + 1) b s = some x) ∧ (∀ s x, pBeside f s = some x → pBeside (f + 1) s = some x) ∧ (∀ b s x, pBar f b s = some x → pBar (f + 1) b s = some x) := by
  intro f
  induction f with
  | zero => exact ⟨by simp [pOne], by simp [pBehind], by simp [pSemi], by simp [pBeside], by simp [pBar]⟩
  | succ f ih =>
    obtain ⟨i1, i2, i3, i4, i5⟩ := ih
    refine ⟨?_, ?_, ?_, ?_, ?_⟩
    · intro s x h
      unfold pOne at h
      unfold pOne
      split at h
      · rename_i hc
        rw [if_pos hc]
        obtain ⟨y, h1, h2⟩ := bind_some h
        rw [i4 _ _ h1]
        exact h2
      · rename_i hc
        rw [if_neg hc]; exact h
    · intro s x h
      unfold pBehind at h
      obtain ⟨y, h1, h2⟩ := bind_some h
      unfold pBehind
      rw [i1 _ _ h1]
      exact i3 _ _ _ h2
    · intro b s x h
      unfold pSemi at h
      unfold pSemi
      split at h
      · rename_i hc
        rw [if_pos hc]
        obtain ⟨y, h1, h2⟩ := bind_some h
        rw [i1 _ _ h1]
        exact i3 _ _ _ h2
      · rename_i hc
        rw [if_neg hc]; exact h
    · intro s x h
      unfold pBeside at h
      obtain ⟨y, h1, h2⟩ := bind_some h
      unfold pBeside
      rw [i2 _ _ h1]
      exact i5 _ _ _ h2
    · intro b s x h
      unfold pBar at h
      unfold pBar
      split at h
      · rename_i hc
        rw [if_pos hc]
        obtain ⟨y, h1, h2⟩ := bind_some h
        rw [i2 _ _ h1]
        exact i5 _ _ _ h2
      · rename_i hc
        rw [if_neg hc]; exact h

theorem pBeside_more {f g : Nat} (hg : f ≤ g) {s : List UInt8} {x : Wv × List UInt8} (h : pBeside f s = some x) : pBeside g s = some x := by
  obtain ⟨k, rfl⟩ : ∃ k, g = f + k := ⟨g - f, by omega⟩
  clear hg
  induction k with
  | zero => exact h
  | succ k ih => exact (p_more (f + k)).2.2.2.1 _ _ ih
theorem pBar_more {f g : Nat} (hg : f ≤ g) {b : Wv} {s : List UInt8} {x : Wv × List UInt8} (h : pBar f b s = some x) : pBar g b s = some x := by
  obtain ⟨k, rfl⟩ : ∃ k, g = f + k := ⟨g - f, by omega⟩
  clear hg
  induction k with
  | zero => exact h
  | succ k ih => exact (p_more (f + k)).2.2.2.2 _ _ _ ih

/-- What may stand behind a weave that ends there: nothing that would go on with it. -/
def Shut (u : List UInt8) : Prop := ∀ c, u.head? = some c → isDig c = false ∧ c ≠ 59 ∧ c ≠ 124
/-- .. or what goes on beside it. -/
def Half (u : List UInt8) : Prop := ∀ c, u.head? = some c → isDig c = false ∧ c ≠ 59

theorem isC_app {c : UInt8} {s : List UInt8} (u : List UInt8) (h : s ≠ []) : isC c (s ++ u) = isC c s := by
  cases s with
  | nil => exact absurd rfl h
  | cons a l => simp [isC]
theorem isC_ne {c : UInt8} {s : List UInt8} (h : isC c s = true) : s ≠ [] := by
  rintro rfl; simp [isC] at h
theorem tail_app {s : List UInt8} (u : List UInt8) (h : s ≠ []) : (s ++ u).tail = s.tail ++ u := by
  cases s with
  | nil => exact absurd rfl h
  | cons a l => simp

theorem span_app (p : UInt8 → Bool) (s u : List UInt8) (h : s.dropWhile p = [] → ∀ c, u.head? = some c → p c = false) : (s ++ u).takeWhile p = s.takeWhile p ∧ (s ++ u).dropWhile p = s.dropWhile p ++ u := by
  induction s with
  | nil =>
    cases u with
    | nil => simp
    | cons c l =>
      have := h rfl c rfl
      simp [this]
  | cons a l ih =>
    by_cases ha : p a = true
    · have := ih (fun e => h (by simp [ha, e]))
      simp [ha, this.1, this.2]
    · simp [ha]

theorem pNum_app {s r u : List UInt8} {a : Wv} (h : pNum s = some (a, r)) (hu : r = [] → ∀ c, u.head? = some c → isDig c = false) : pNum (s ++ u) = some (a, r ++ u) := by
  unfold pNum at h
  split at h
  · cases h
  · rename_i hn
    injection h with h
    injection h with h1 h
    have hs : s ≠ [] := by rintro rfl; simp at hn
    obtain ⟨e1, e2⟩ := span_app isDig s u (by rw [h]; exact hu)
    unfold pNum
    rw [e1, e2]
    have e3 : (s ++ u).head? = s.head? := by cases s with | nil => exact absurd rfl hs | cons => rfl
    rw [e3, if_neg hn, h1, h]

theorem p_app (u : List UInt8) : ∀ f : Nat,
    (∀ s a r, pOne f s = some (a, r) → (r = [] → Half u ∨ Shut u) → (r = [] → ∀ c, u.head? = some c → isDig c = false) → pOne f (s ++ u) = some (a, r ++ u)) ∧
    (∀ s a r, pBehind f s = some (a, r) → (r = [] → Half u) → pBehind f (s ++ u) = some (a, r ++ u)) ∧
    (∀ b s a r, pSemi f b s = some (a, r) → (r = [] → Half u) → pSemi f b (s ++ u) = some (a, r ++ u)) ∧
    (∀ s a r, pBeside f s = some (a, r) → (r = [] → Shut u) → pBeside f (s ++ u) = some (a, r ++ u)) ∧
    (∀ b s a r, pBar f b s = some (a, r) → (r = [] → Shut u) → pBar f b (s ++ u) = some (a, r ++ u)) := by
  intro f
  induction f with
  | zero => exact ⟨by simp [pOne], by simp [pBehind], by simp [pSemi], by simp [pBeside], by simp [pBar]⟩
  | succ f ih =>
    obtain ⟨i1, i2, i3, i4, i5⟩ := ih
    refine ⟨?_, ?_, ?_, ?_, ?_⟩
    · intro s a r h _ hu
      unfold pOne at h
      unfold pOne
      split at h
      · rename_i hc
        have hne := isC_ne hc
        rw [isC_app u hne, if_pos hc, tail_app u hne]
        obtain ⟨x, h1, h2⟩ := bind_some h
        split at h2
        · rename_i hd
          have hx := isC_ne hd
          rw [i4 _ _ _ h1 (fun e => absurd e hx)]
          injection h2 with h2
          injection h2 with h2 h3
          show (if isC 41 (x.2 ++ u) then _ else _) = _
          rw [isC_app u hx, if_pos hd]
          show some (x.1, (x.2 ++ u).tail) = _
          rw [tail_app u hx, h2, h3]
        · cases h2
      · rename_i hc
        have hne : s ≠ [] := by rintro rfl; simp [pNum] at h
        rw [isC_app u hne, if_neg hc]
        exact pNum_app h hu
    · intro s a r h hu
      unfold pBehind at h
      obtain ⟨x, h1, h2⟩ := bind_some h
      unfold pBehind
      have hr : x.2 = [] → r = [] := fun e => by
        have := (p_len f).2.2.1 _ _ _ _ h2
        rw [e] at this
        exact List.length_eq_zero_iff.1 (by simpa using this)
      rw [i1 _ _ _ h1 (fun e => .inl (hu (hr e))) (fun e c hc => (hu (hr e) c hc).1)]
      exact i3 _ _ _ _ h2 hu
    · intro b s a r h hu
      unfold pSemi at h
      unfold pSemi
      split at h
      · rename_i hc
        have hne := isC_ne hc
        rw [isC_app u hne, if_pos hc, tail_app u hne]
        obtain ⟨x, h1, h2⟩ := bind_some h
        have hr : x.2 = [] → r = [] := fun e => by
          have := (p_len f).2.2.1 _ _ _ _ h2
          rw [e] at this
          exact List.length_eq_zero_iff.1 (by simpa using this)
        rw [i1 _ _ _ h1 (fun e => .inl (hu (hr e))) (fun e c hc => (hu (hr e) c hc).1)]
        exact i3 _ _ _ _ h2 hu
      · rename_i hc
        injection h with h
        injection h with h1 h2
        have hn : ¬ isC 59 (s ++ u) = true := by
          cases s with
          | nil =>
            intro e
            unfold isC at e
            simp only [List.nil_append, beq_iff_eq] at e
            exact (hu h2.symm 59 e).2 rfl
          | cons a l => rw [isC_app u (by simp)]; exact hc
        rw [if_neg hn, h1, h2]
    · intro s a r h hu
      unfold pBeside at h
      obtain ⟨x, h1, h2⟩ := bind_some h
      unfold pBeside
      have hr : x.2 = [] → r = [] := fun e => by
        have := (p_len f).2.2.2.2 _ _ _ _ h2
        rw [e] at this
        exact List.length_eq_zero_iff.1 (by simpa using this)
      rw [i2 _ _ _ h1 (fun e c hc => ⟨(hu (hr e) c hc).1, (hu (hr e) c hc).2.1⟩)]
      exact i5 _ _ _ _ h2 hu
    · intro b s a r h hu
      unfold pBar at h
      unfold pBar
      split at h
      · rename_i hc
        have hne := isC_ne hc
        rw [isC_app u hne, if_pos hc, tail_app u hne]
        obtain ⟨x, h1, h2⟩ := bind_some h
        have hr : x.2 = [] → r = [] := fun e => by
          have := (p_len f).2.2.2.2 _ _ _ _ h2
          rw [e] at this
          exact List.length_eq_zero_iff.1 (by simpa using this)
        rw [i2 _ _ _ h1 (fun e c hc => ⟨(hu (hr e) c hc).1, (hu (hr e) c hc).2.1⟩)]
        exact i5 _ _ _ _ h2 hu
      · rename_i hc
        injection h with h
        injection h with h1 h2
        have hn : ¬ isC 124 (s ++ u) = true := by
          cases s with
          | nil =>
            intro e
            unfold isC at e
            simp only [List.nil_append, beq_iff_eq] at e
            exact (hu h2.symm 124 e).2.2 rfl
          | cons a l => rw [isC_app u (by simp)]; exact hc
        rw [if_neg hn, h1, h2]

end Go.Proofs.YtoofalchkedciaaGreatDoor

namespace Go.Proofs.YtoofalchkedciaaGreatDoor

/-- A text of at most so many digits, without a zero ahead. -/
def numOk (most : Nat) (l : List UInt8) : Bool := !l.isEmpty && decide (l.length ≤ most) && l.all isDig && !(l.head? == some 48 && decide (1 < l.length))

theorem numOk_iff {most : Nat} {l : List UInt8} : numOk most l = true ↔ l ≠ [] ∧ l.length ≤ most ∧ l.all isDig = true ∧ (l.head? = some 48 → l.length ≤ 1) := by
  unfold numOk
  simp only [Bool.and_eq_true, Bool.not_eq_true', decide_eq_true_eq, and_assoc]
  constructor
  · rintro ⟨h1, h2, h3, h4⟩
    refine ⟨by intro e; subst e; simp at h1, h2, h3, fun h => ?_⟩
    rw [h] at h4
    simp at h4
    exact h4
  · rintro ⟨h1, h2, h3, h4⟩
    refine ⟨by cases l <;> simp_all, h2, h3, ?_⟩
    by_cases h : l.head? = some 48
    · have := h4 h
      rw [h]
      simp
      exact this
    · simp [h]

theorem digV_snoc (l : List UInt8) (c : UInt8) : digV (l ++ [c]) = digV l * 10 + (c.toNat - 48) := by
  unfold digV
  rw [List.foldl_append]
  rfl
theorem snoc_cases (l : List UInt8) : l = [] ∨ ∃ l' c, l = l' ++ [c] := by
  rcases List.eq_nil_or_concat l with h | ⟨l', c, h⟩
  · exact .inl h
  · exact .inr ⟨l', c, by simpa using h⟩
theorem dig_of {c : UInt8} (h : isDig c = true) : 48 ≤ c.toNat ∧ c.toNat ≤ 57 := by simpa [isDig] using h
theorem dig_mk {d : Nat} (h : d < 10) : isDig (UInt8.ofNat (48 + d)) = true ∧ (UInt8.ofNat (48 + d)).toNat = 48 + d := by
  have : d = 0 ∨ d = 1 ∨ d = 2 ∨ d = 3 ∨ d = 4 ∨ d = 5 ∨ d = 6 ∨ d = 7 ∨ d = 8 ∨ d = 9 := by omega
  rcases this with rfl | rfl | rfl | rfl | rfl | rfl | rfl | rfl | rfl | rfl <;> exact ⟨rfl, rfl⟩
theorem mk_dig {c : UInt8} (h : isDig c = true) : UInt8.ofNat (48 + (c.toNat - 48)) = c := by
  have := dig_of h
  rw [show 48 + (c.toNat - 48) = c.toNat by omega]
  simp
theorem dec_step (n : Nat) (h : ¬ n < 10) : Lib.decDigits n = Lib.decDigits (n / 10) ++ [UInt8.ofNat (48 + n % 10)] := by rw [Lib.decDigits, dif_neg h]
theorem digV_pow (l : List UInt8) (h : l.all isDig = true) : digV l < 10 ^ l.length := by
  obtain ⟨n, hn⟩ : ∃ n, l.length = n := ⟨_, rfl⟩
  induction n generalizing l with
  | zero => rw [List.length_eq_zero_iff.1 hn]; simp [digV]
  | succ n ih =>
    rcases snoc_cases l with rfl | ⟨l', c, rfl⟩
    · simp at hn
    · rw [List.all_append, Bool.and_eq_true] at h
      have hc := dig_of (by simpa using h.2 : isDig c = true)
      have hl : l'.length = n := by simpa using hn
      have := ih l' h.1 hl
      rw [digV_snoc, List.length_append, List.length_singleton, Nat.pow_succ]
      omega
/-- What is printed is read as it was. -/
theorem digV_dec (n : Nat) : digV (Lib.decDigits n) = n ∧ (Lib.decDigits n).all isDig = true ∧ Lib.decDigits n ≠ [] ∧ ((Lib.decDigits n).head? = some 48 → n = 0) := by
  induction n using Nat.strongRecOn with
  | ind n ih =>
    by_cases h : n < 10
    · rw [Lib.decDigits_one h]
      obtain ⟨h1, h2⟩ := dig_mk h
      obtain ⟨c, hc⟩ : ∃ c, UInt8.ofNat (48 + n) = c := ⟨_, rfl⟩
      rw [hc] at h1 h2 ⊢
      refine ⟨by show 0 * 10 + (c.toNat - 48) = n; omega, by simpa using h1, by simp, fun h3 => ?_⟩
      have h4 : c = 48 := by simpa using h3
      rw [h4] at h2
      have h48 : (48 : UInt8).toNat = 48 := rfl
      omega
    · obtain ⟨h1, h2, h3, h4⟩ := ih (n / 10) (by omega)
      obtain ⟨k1, k2⟩ := dig_mk (d := n % 10) (by omega)
      rw [dec_step n h]
      obtain ⟨c, hc⟩ : ∃ c, UInt8.ofNat (48 + n % 10) = c := ⟨_, rfl⟩
      rw [hc] at k1 k2 ⊢
      refine ⟨by rw [digV_snoc, h1, k2]; omega, by rw [List.all_append, h2]; simpa using k1, by simp, fun h5 => ?_⟩
      have : (Lib.decDigits (n / 10)).head? = some 48 := by
        cases hd : Lib.decDigits (n / 10) with
        | nil => exact absurd hd h3
        | cons a t => rw [hd] at h5; simpa using h5
      have := h4 this
      omega
/-- .. and what is a number is printed as it was. -/
theorem dec_digV (l : List UInt8) (h0 : l ≠ []) (h : l.all isDig = true) (hz : l.head? = some 48 → l.length ≤ 1) : Lib.decDigits (digV l) = l := by
  obtain ⟨n, hn⟩ : ∃ n, l.length = n := ⟨_, rfl⟩
  induction n generalizing l with
  | zero => exact absurd (List.length_eq_zero_iff.1 hn) h0
  | succ n ih =>
    rcases snoc_cases l with rfl | ⟨l', c, rfl⟩
    · exact absurd rfl h0
    · rw [List.all_append, Bool.and_eq_true] at h
      have hc1 : isDig c = true := by simpa using h.2
      have hc := dig_of hc1
      have hl : l'.length = n := by simpa using hn
      by_cases he : l' = []
      · subst he
        rw [digV_snoc]
        simp only [List.nil_append]
        rw [show digV [] = 0 from rfl, Nat.zero_mul, Nat.zero_add, Lib.decDigits_one (by omega), mk_dig hc1]
      · have hh : (l' ++ [c]).head? = l'.head? := by
          cases l' with
          | nil => exact absurd rfl he
          | cons a t => rfl
        have hz' : l'.head? ≠ some 48 := fun e => by
          have h9 := hz (by rw [hh]; exact e)
          have : 0 < l'.length := List.length_pos_iff.2 he
          rw [List.length_append, List.length_singleton] at h9
          omega
        have hr := ih l' he h.1 (fun e => absurd e hz') hl
        have hpos : 1 ≤ digV l' := by
          rcases Nat.eq_zero_or_pos (digV l') with e | e
          · rw [e, Lib.decDigits_one (by omega)] at hr
            rw [← hr] at hz'
            exact absurd rfl hz'
          · exact e
        rw [digV_snoc, dec_step _ (by omega), show (digV l' * 10 + (c.toNat - 48)) / 10 = digV l' by omega, show (digV l' * 10 + (c.toNat - 48)) % 10 = c.toNat - 48 by omega, hr, mk_dig hc1]

theorem num_dec {most : Nat} {l : List UInt8} (h : numOk most l = true) : Lib.decDigits (digV l) = l := by
  obtain ⟨h1, _, h3, h4⟩ := numOk_iff.1 h
  exact dec_digV l h1 h3 h4
theorem dec_num {most n : Nat} {l : List UInt8} (h : Lib.decDigits n = l) (hl : l.length ≤ most) : numOk most l = true ∧ digV l = n := by
  subst h
  obtain ⟨h1, h2, h3, h4⟩ := digV_dec n
  refine ⟨numOk_iff.2 ⟨h3, hl, h2, fun h => ?_⟩, h1⟩
  have := h4 h
  subst this
  rw [Lib.decDigits_one (by omega)]
  simp

end Go.Proofs.YtoofalchkedciaaGreatDoor

namespace Go.Proofs.YtoofalchkedciaaGreatDoor
open Go.RowKit Go.Deep

theorem sliceOf_strs : SliceOf 64 9 1 16 :=
  sliceOf_parts (z := .string ⟨#[]⟩) Tryz.underlying64 (by kernel_rfl) rfl (by decide) (by decide)

/-- Texts of the call's own. -/
def OwnStrs (w : World) (base : Nat) (v : Value) (xs : List ByteArray) : Prop := w.ownsRow base 9 1 v xs.length (xs.map .string)
theorem OwnStrs.nil (w : World) (base : Nat) : OwnStrs w base (.slice none 0 0) [] := World.ownsRow_nil _ _ _ _
def strAt (xs : List ByteArray) (i : Nat) : ByteArray := xs[i]?.getD ⟨#[]⟩
theorem strs_one (xs : List ByteArray) : ∀ y ∈ xs.map Value.string, y.oneCell' = true := by
  intro y hy
  obtain ⟨s, _, rfl⟩ := List.mem_map.1 hy
  rfl
theorem OwnStrs.opt {w : World} {base : Nat} {v : Value} {xs : List ByteArray} (h : OwnStrs w base v xs) :
    ∃ a cap, v = .slice a xs.length cap ∧ xs.length ≤ cap ∧ ∀ i, i < xs.length → ∃ b, a = some ⟨b, 0, none⟩ ∧ base ≤ b ∧ w.cell? ⟨b, i, none⟩ = some (.string (strAt xs i)) := by
  have h1 := h.1
  rcases h.2 with ⟨rfl, h0⟩ | ⟨g, cap, cur, rfl, hb, hg, hc, hm, hz, hx⟩
  · exact ⟨none, 0, by rw [h0], by omega, fun i hi => by omega⟩
  · refine ⟨_, cap, rfl, hc, fun i hi => ⟨g, rfl, hb, ?_⟩⟩
    unfold World.cell?
    rw [hg]
    have h2 := congrArg (fun l => l[i]?) hx
    simp only [List.getElem?_take, List.getElem?_map] at h2
    rw [if_pos (by omega)] at h2
    have h3 : xs[i]? = some (strAt xs i) := by simp [strAt, hi]
    rw [h3] at h2
    simpa using h2

/-- A text, cut at each byte c. -/
def cutL (c : UInt8) : List UInt8 → List (List UInt8)
  | [] => [[]]
  | x :: l => if x = c then [] :: cutL c l else match cutL c l with
    | [] => [[x]]
    | p :: r => (x :: p) :: r

theorem cutL_ne (c : UInt8) (l : List UInt8) : cutL c l ≠ [] := by
  cases l with
  | nil => simp [cutL]
  | cons x l =>
    unfold cutL
    split
    · simp
    · split <;> simp
theorem cutL_no (c : UInt8) (l : List UInt8) (h : c ∉ l) : cutL c l = [l] := by
  induction l with
  | nil => rfl
  | cons x l ih =>
    have hx : x ≠ c := fun e => h (by simp [e])
    unfold cutL
    rw [if_neg hx, ih (fun hm => h (by simp [hm]))]
theorem cutL_at (c : UInt8) (p r : List UInt8) (h : c ∉ p) : cutL c (p ++ c :: r) = p :: cutL c r := by
  induction p with
  | nil => simp [cutL]
  | cons x p ih =>
    have hx : x ≠ c := fun e => h (by simp [e])
    rw [List.cons_append]
    conv => lhs; unfold cutL
    rw [if_neg hx, ih (fun hm => h (by simp [hm]))]
theorem cutL_len (c : UInt8) (l : List UInt8) : (cutL c l).length ≤ l.length + 1 := by
  induction l with
  | nil => simp [cutL]
  | cons x l ih =>
    unfold cutL
    split
    · simp; exact ih
    · split
      · simp
      · rename_i p r e
        rw [e] at ih
        simp at ih ⊢; omega

/-- The pieces as texts. -/
def cutS (c : UInt8) (s : ByteArray) : List ByteArray := (cutL c s.data.toList).map fun p => ⟨p.toArray⟩
theorem cutS_len (c : UInt8) (s : ByteArray) : (cutS c s).length = (cutL c s.data.toList).length := by simp [cutS]

end Go.Proofs.YtoofalchkedciaaGreatDoor

namespace Go.Proofs.YtoofalchkedciaaGreatDoor

/-- What a task's text comes to. -/
def readT (l : List UInt8) : Option (Int × List Int) :=
  match cutL 60 l with
  | [a] => if numOk 4 a = true then some ((digV a : Int), []) else none
  | [a, b] => if numOk 4 a = true ∧ (cutL 44 b).all (numOk 4) = true then some ((digV a : Int), (cutL 44 b).map fun x => (digV x : Int)) else none
  | _ => none
/-- .. a plan's. -/
def readTs : List (List UInt8) → Option PlanL
  | [] => some []
  | x :: r => match readT x, readTs r with
    | some t, some p => some (t :: p)
    | _, _ => none
def readP (l : List UInt8) : Option PlanL := if l = [] then some [] else readTs (cutL 32 l)

def decI (n : Int) : List UInt8 := Lib.decDigits n.toNat
/-- What a task needs, as text. -/
def textN : List Int → List UInt8
  | [] => []
  | k :: r => 60 :: decI k ++ r.flatMap fun n => 44 :: decI n
def textT (t : Int × List Int) : List UInt8 := decI t.1 ++ textN t.2
def textP : PlanL → List UInt8
  | [] => []
  | t :: p => textT t ++ p.flatMap fun x => 32 :: textT x

theorem decI_dig (n : Int) : (decI n).all isDig = true := (digV_dec _).2.1
theorem dig_not {c : UInt8} {l : List UInt8} (h : l.all isDig = true) (hc : isDig c = false) : c ∉ l := fun hm => by
  have := List.all_eq_true.1 h c hm
  rw [hc] at this
  cases this
theorem decI_ne (n : Int) : decI n ≠ [] := (digV_dec _).2.2.1

/-- cutL undoes the joining. -/
theorem cutL_join (c : UInt8) : ∀ (r : List (List UInt8)) (x : List UInt8), c ∉ x → (∀ y ∈ r, c ∉ y) → cutL c (x ++ r.flatMap fun y => c :: y) = x :: r
  | [], x, h, _ => by simpa using cutL_no c x h
  | y :: r, x, h, hr => by
    rw [List.flatMap_cons, List.cons_append, cutL_at c x _ h, cutL_join c r y (hr y (by simp)) (fun z hz => hr z (by simp [hz]))]
/-- .. and the joining undoes cutL. -/
theorem join_cutL (c : UInt8) : ∀ (l : List UInt8) (x : List UInt8) (r : List (List UInt8)), cutL c l = x :: r → l = x ++ r.flatMap fun y => c :: y
  | [], x, r, h => by
    simp only [cutL, List.cons.injEq] at h
    obtain ⟨rfl, rfl⟩ := h
    rfl
  | b :: l, x, r, h => by
    unfold cutL at h
    split at h
    · rename_i hb
      simp only [List.cons.injEq] at h
      obtain ⟨rfl, rfl⟩ := h
      cases hc : cutL c l with
      | nil => exact absurd hc (cutL_ne c l)
      | cons p q =>
        have := join_cutL c l p q hc
        rw [List.flatMap_cons, List.nil_append, List.cons_append, hb, ← this]
    · cases hc : cutL c l with
      | nil => exact absurd hc (cutL_ne c l)
      | cons p q =>
        rw [hc] at h
        simp only [List.cons.injEq] at h
        obtain ⟨rfl, rfl⟩ := h
        have := join_cutL c l p q hc
        rw [List.cons_append, ← this]
theorem cutL_free (c : UInt8) : ∀ (l : List UInt8), ∀ x ∈ cutL c l, c ∉ x
  | [], x, h => by
    simp only [cutL, List.mem_singleton] at h
    subst h
    simp
  | b :: l, x, h => by
    unfold cutL at h
    split at h
    · rcases List.mem_cons.1 h with rfl | h
      · simp
      · exact cutL_free c l x h
    · rename_i hb
      cases hc : cutL c l with
      | nil => exact absurd hc (cutL_ne c l)
      | cons p q =>
        rw [hc] at h
        have ih := cutL_free c l
        rw [hc] at ih
        rcases List.mem_cons.1 h with rfl | h
        · have := ih p (by simp)
          simp only [List.mem_cons, not_or]
          exact ⟨fun e => hb e.symm, this⟩
        · exact ih x (by simp [h])

theorem dec_len : ∀ (k n : Nat), n < 10 ^ (k + 1) → (Lib.decDigits n).length ≤ k + 1
  | 0, n, h => by rw [Lib.decDigits_one (by omega)]; simp
  | k + 1, n, h => by
    by_cases h1 : n < 10
    · rw [Lib.decDigits_one h1]; simp
    · rw [dec_step n h1, List.length_append, List.length_singleton]
      have := dec_len k (n / 10) (by rw [Nat.pow_succ] at h; omega)
      omega
/-- Numbers that may stand in a text. -/
def Num4 (n : Int) : Prop := 0 ≤ n ∧ n < 10000
theorem dec_num4 {n : Int} (h : Num4 n) : numOk 4 (decI n) = true ∧ (digV (decI n) : Int) = n := by
  obtain ⟨h0, h1⟩ := h
  have hl : (decI n).length ≤ 4 := dec_len 3 n.toNat (by omega)
  obtain ⟨a, b⟩ := dec_num (most := 4) (n := n.toNat) rfl hl
  refine ⟨a, ?_⟩
  have : digV (decI n) = n.toNat := b
  omega
theorem num4_of {l : List UInt8} (h : numOk 4 l = true) : Num4 (digV l : Int) ∧ decI (digV l : Int) = l := by
  have h1 := num_dec h
  obtain ⟨_, h2, h3, _⟩ := numOk_iff.1 h
  have h4 := digV_pow l h3
  have h5 : 10 ^ l.length ≤ 10 ^ 4 := Nat.pow_le_pow_right (by omega) h2
  refine ⟨⟨by omega, by omega⟩, ?_⟩
  unfold decI
  rw [show ((digV l : Int)).toNat = digV l by omega]
  exact h1

def Nums4 (t : Int × List Int) : Prop := Num4 t.1 ∧ ∀ k ∈ t.2, Num4 k

theorem textN_dig : ∀ (l : List Int), ∀ c ∈ textN l, isDig c = true ∨ c = 60 ∨ c = 44
  | [], c, h => by simp [textN] at h
  | k :: r, c, h => by
    unfold textN at h
    rcases List.mem_append.1 h with h | h
    · rcases List.mem_cons.1 h with h | h
      · exact .inr (.inl h)
      · exact .inl (List.all_eq_true.1 (decI_dig k) c h)
    · obtain ⟨n, _, h⟩ := List.mem_flatMap.1 h
      rcases List.mem_cons.1 h with h | h
      · exact .inr (.inr h)
      · exact .inl (List.all_eq_true.1 (decI_dig n) c h)
theorem textT_dig (t : Int × List Int) : ∀ c ∈ textT t, isDig c = true ∨ c = 60 ∨ c = 44 := by
  intro c h
  rcases List.mem_append.1 h with h | h
  · exact .inl (List.all_eq_true.1 (decI_dig _) c h)
  · exact textN_dig _ c h
theorem textT_32 (t : Int × List Int) : (32 : UInt8) ∉ textT t := fun h => by
  rcases textT_dig t _ h with h | h | h <;> revert h <;> decide

/-- What is printed is read as it was. -/
theorem read_textT (t : Int × List Int) (h : Nums4 t) : readT (textT t) = some t := by
  obtain ⟨n, l⟩ := t
  obtain ⟨h1, h2⟩ := h
  obtain ⟨a1, a2⟩ := dec_num4 h1
  have hd : (60 : UInt8) ∉ decI n := dig_not (decI_dig n) (by decide)
  cases l with
  | nil =>
    have e : cutL 60 (textT (n, [])) = [decI n] := by
      show cutL 60 (decI n ++ []) = _
      rw [List.append_nil]
      exact cutL_no 60 _ hd
    unfold readT
    rw [e]
    simp only [a1, if_true]
    rw [a2]
  | cons k r =>
    have hb : (60 : UInt8) ∉ decI k ++ r.flatMap fun n => 44 :: decI n := by
      intro hm
      rcases List.mem_append.1 hm with hm | hm
      · exact dig_not (decI_dig k) (by decide) hm
      · obtain ⟨x, _, hx⟩ := List.mem_flatMap.1 hm
        rcases List.mem_cons.1 hx with hx | hx
        · revert hx; decide
        · exact dig_not (decI_dig x) (by decide) hx
    have e : cutL 60 (textT (n, k :: r)) = [decI n, decI k ++ r.flatMap fun n => 44 :: decI n] := by
      show cutL 60 (decI n ++ (60 :: decI k ++ r.flatMap fun n => 44 :: decI n)) = _
      rw [List.cons_append, cutL_at 60 _ _ hd, cutL_no 60 _ hb]
    have e2 : cutL 44 (decI k ++ r.flatMap fun n => 44 :: decI n) = (k :: r).map decI := by
      have := cutL_join 44 (r.map decI) (decI k) (dig_not (decI_dig k) (by decide)) (fun y hy => by
        obtain ⟨x, _, rfl⟩ := List.mem_map.1 hy
        exact dig_not (decI_dig x) (by decide))
      rw [List.flatMap_map] at this
      exact this
    unfold readT
    rw [e]
    simp only [e2]
    have e3 : ((k :: r).map decI).all (numOk 4) = true := by
      rw [List.all_eq_true]
      intro x hx
      obtain ⟨y, hy, rfl⟩ := List.mem_map.1 hx
      exact (dec_num4 (h2 y hy)).1
    rw [if_pos ⟨a1, e3⟩, a2, List.map_map]
    congr 2
    have e4 : ∀ (q : List Int), (∀ x ∈ q, Num4 x) → q.map ((fun x => (digV x : Int)) ∘ decI) = q := by
      intro q hq
      induction q with
      | nil => rfl
      | cons a q ih =>
        rw [List.map_cons, ih (fun x hx => hq x (by simp [hx]))]
        show (digV (decI a) : Int) :: q = a :: q
        rw [(dec_num4 (hq a (by simp))).2]
    exact e4 _ h2
theorem read_textTs : ∀ (p : PlanL), (∀ t ∈ p, Nums4 t) → readTs (p.map textT) = some p
  | [], _ => rfl
  | t :: p, h => by
    rw [List.map_cons]
    unfold readTs
    rw [read_textT t (h t (by simp)), read_textTs p (fun x hx => h x (by simp [hx]))]
theorem read_textP (p : PlanL) (h : ∀ t ∈ p, Nums4 t) : readP (textP p) = some p := by
  cases p with
  | nil => rfl
  | cons t p =>
    have hne : textP (t :: p) ≠ [] := by
      intro e
      have h1 : decI t.1 ++ (textN t.2 ++ p.flatMap fun x => 32 :: textT x) = [] := by
        rw [← List.append_assoc]
        exact e
      exact decI_ne _ (List.append_eq_nil_iff.1 h1).1
    unfold readP
    rw [if_neg hne]
    have e : cutL 32 (textP (t :: p)) = (t :: p).map textT := by
      have := cutL_join 32 (p.map textT) (textT t) (textT_32 t) (fun y hy => by
        obtain ⟨x, _, rfl⟩ := List.mem_map.1 hy
        exact textT_32 x)
      rw [List.flatMap_map] at this
      exact this
    rw [e]
    exact read_textTs _ h
/-- .. and what is read is printed as it was. -/
theorem text_readT {l : List UInt8} {t : Int × List Int} (h : readT l = some t) : textT t = l ∧ Nums4 t := by
  unfold readT at h
  split at h
  · rename_i a e
    split at h
    · rename_i ha
      obtain rfl := Option.some.inj h
      obtain ⟨h1, h2⟩ := num4_of ha
      have := join_cutL 60 l a [] e
      rw [List.flatMap_nil, List.append_nil] at this
      refine ⟨?_, h1, by simp⟩
      show decI (digV a : Int) ++ [] = l
      rw [h2, List.append_nil, this]
    · cases h
  · rename_i a b e
    split at h
    · rename_i hab
      obtain rfl := Option.some.inj h
      obtain ⟨h1, h2⟩ := num4_of hab.1
      have hl := join_cutL 60 l a [b] e
      have hall : ∀ x ∈ cutL 44 b, numOk 4 x = true := fun x hx => List.all_eq_true.1 hab.2 x hx
      refine ⟨?_, h1, fun k hk => by
        obtain ⟨x, hx, rfl⟩ := List.mem_map.1 hk
        exact (num4_of (hall x hx)).1⟩
      cases hc : cutL 44 b with
      | nil => exact absurd hc (cutL_ne 44 b)
      | cons x r =>
        rw [hc] at hall
        have hb := join_cutL 44 b x r hc
        show decI (digV a : Int) ++ textN ((x :: r).map fun y => (digV y : Int)) = l
        have ht : textN ((x :: r).map fun y => (digV y : Int)) = 60 :: decI (digV x : Int) ++ ((r.map fun y => (digV y : Int)).flatMap fun n => 44 :: decI n) := rfl
        rw [h2, ht, (num4_of (hall x (by simp))).2, List.flatMap_map]
        have hf : (r.flatMap fun y => 44 :: decI (digV y : Int)) = r.flatMap fun y => 44 :: y := by
          clear hc hb ht
          induction r with
          | nil => rfl
          | cons y r ih =>
            rw [List.flatMap_cons, List.flatMap_cons, (num4_of (hall y (by simp))).2, ih (fun z hz => hall z (by
              rcases List.mem_cons.1 hz with rfl | hz
              · simp
              · simp [hz]))]
        rw [hf, hl]
        simp only [List.flatMap_cons, List.flatMap_nil, List.append_nil]
        rw [List.cons_append, ← hb]
    · cases h
  · cases h
theorem text_readTs : ∀ {r : List (List UInt8)} {p : PlanL}, readTs r = some p → p.map textT = r ∧ ∀ t ∈ p, Nums4 t
  | [], p, h => by
    obtain rfl := Option.some.inj h
    exact ⟨rfl, by simp⟩
  | x :: r, p, h => by
    unfold readTs at h
    split at h
    · rename_i t q h1 h2
      obtain rfl := Option.some.inj h
      obtain ⟨a1, a2⟩ := text_readT h1
      obtain ⟨b1, b2⟩ := text_readTs h2
      refine ⟨by rw [List.map_cons, a1, b1], fun y hy => ?_⟩
      rcases List.mem_cons.1 hy with rfl | hy
      · exact a2
      · exact b2 y hy
    · cases h
theorem text_readP {l : List UInt8} {p : PlanL} (h : readP l = some p) : textP p = l ∧ ∀ t ∈ p, Nums4 t := by
  unfold readP at h
  split at h
  · rename_i e
    obtain rfl := Option.some.inj h
    rw [e]
    exact ⟨rfl, by simp⟩
  · obtain ⟨h1, h2⟩ := text_readTs h
    refine ⟨?_, h2⟩
    cases p with
    | nil =>
      rw [List.map_nil] at h1
      exact absurd h1.symm (cutL_ne 32 l)
    | cons t p =>
      have := join_cutL 32 l (textT t) (p.map textT) h1.symm
      rw [List.flatMap_map] at this
      exact this.symm

end Go.Proofs.YtoofalchkedciaaGreatDoor
