/-
  Weaves in plain words: how a text is read. No program is named here.
-/
import Derived.Test.YtoofalchkedciaaDoorP1TraceBack
namespace Go.Proofs.YtoofalchkedciaaDoor

/-- A weave: a task, one behind the other, beside each other. -/
inductive Wv where
  | num (n : Int) : Wv
  | seq (a b : Wv) : Wv
  | par (a b : Wv) : Wv

def isDig (c : UInt8) : Bool := decide (48 ≤ c.toNat) && decide (c.toNat ≤ 57)
/-- What digits come to. -/
def digV (l : List UInt8) : Nat := l.foldl (fun n c => n * 10 + (c.toNat - 48)) 0
/-- .. where what is more than 20 is 21. -/
def numV (l : List UInt8) : Int := if digV l ≤ 20 then (digV l : Int) else 21

def pNum (s : List UInt8) : Option (Wv × List UInt8) :=
  if (s.takeWhile isDig).isEmpty || s.head? == some 48 then none else some (.num (numV (s.takeWhile isDig)), s.dropWhile isDig)

/-- Is the next byte one? -/
def isC (c : UInt8) (s : List UInt8) : Bool := s.head? == some c

mutual
/-- A number, or a weave in signs. -/
def pOne : Nat → List UInt8 → Option (Wv × List UInt8)
  | 0, _ => none
  | f + 1, s => if isC 40 s then (pBeside f s.tail).bind (fun x => if isC 41 x.2 then some (x.1, x.2.tail) else none) else pNum s
/-- One behind the other. -/
def pBehind : Nat → List UInt8 → Option (Wv × List UInt8)
  | 0, _ => none
  | f + 1, s => (pOne f s).bind (fun x => pSemi f x.1 x.2)
def pSemi : Nat → Wv → List UInt8 → Option (Wv × List UInt8)
  | 0, _, _ => none
  | f + 1, a, s => if isC 59 s then (pOne f s.tail).bind (fun x => pSemi f (.seq a x.1) x.2) else some (a, s)
/-- Beside each other. -/
def pBeside : Nat → List UInt8 → Option (Wv × List UInt8)
  | 0, _ => none
  | f + 1, s => (pBehind f s).bind (fun x => pBar f x.1 x.2)
def pBar : Nat → Wv → List UInt8 → Option (Wv × List UInt8)
  | 0, _, _ => none
  | f + 1, a, s => if isC 124 s then (pBehind f s.tail).bind (fun x => pBar f (.par a x.1) x.2) else some (a, s)
end

/-- All that is read is shorter. -/
theorem pNum_len {s r : List UInt8} {a : Wv} (h : pNum s = some (a, r)) : r.length < s.length := by
  unfold pNum at h
  split at h
  · cases h
  · rename_i hn
    injection h with h
    injection h with _ h
    subst h
    have h1 : (s.takeWhile isDig) ≠ [] := by
      intro e; rw [e] at hn; simp at hn
    have h2 : (s.takeWhile isDig ++ s.dropWhile isDig).length = s.length := by rw [List.takeWhile_append_dropWhile]
    rw [List.length_append] at h2
    have := List.length_pos_iff.2 h1
    omega

theorem isC_len {c : UInt8} {s : List UInt8} (h : isC c s = true) : s.tail.length + 1 = s.length := by
  cases s with
  | nil => simp [isC] at h
  | cons a l => simp

theorem bind_some {α β : Type} {x : Option α} {f : α → Option β} {b : β} (h : x.bind f = some b) : ∃ a, x = some a ∧ f a = some b := by
  cases x with
  | none => cases h
  | some a => exact ⟨a, rfl, h⟩

theorem p_len : ∀ f : Nat, (∀ s a r, pOne f s = some (a, r) → r.length < s.length) ∧ (∀ s a r, pBehind f s = some (a, r) → r.length < s.length) ∧
    (∀ b s a r, pSemi f b s = some (a, r) → r.length ≤ s.length) ∧ (∀ s a r, pBeside f s = some (a, r) → r.length < s.length) ∧ (∀ b s a r, pBar f b s = some (a, r) → r.length ≤ s.length) := by
  intro f
  induction f with
  | zero => exact ⟨by simp [pOne], by simp [pBehind], by simp [pSemi], by simp [pBeside], by simp [pBar]⟩
  | succ f ih =>
    obtain ⟨i1, i2, i3, i4, i5⟩ := ih
    refine ⟨?_, ?_, ?_, ?_, ?_⟩
    · intro s a r h
      unfold pOne at h
      split at h
      · rename_i hc
        obtain ⟨x, h1, h2⟩ := bind_some h
        split at h2
        · rename_i hd
          injection h2 with h2
          injection h2 with _ h2
          have l1 := i4 _ _ _ h1
          have l2 := isC_len hc
          have l3 := isC_len hd
          rw [h2] at l3
          omega
        · cases h2
      · exact pNum_len h
    · intro s a r h
      unfold pBehind at h
      obtain ⟨x, h1, h2⟩ := bind_some h
      have l1 := i1 _ _ _ h1
      have l2 := i3 _ _ _ _ h2
      omega
    · intro b s a r h
      unfold pSemi at h
      split at h
      · rename_i hc
        obtain ⟨x, h1, h2⟩ := bind_some h
        have l1 := i1 _ _ _ h1
        have l2 := i3 _ _ _ _ h2
        have l3 := isC_len hc
        omega
      · injection h with h
        injection h with _ h
        rw [h]; exact Nat.le_refl _
    · intro s a r h
      unfold pBeside at h
      obtain ⟨x, h1, h2⟩ := bind_some h
      have l1 := i2 _ _ _ h1
      have l2 := i5 _ _ _ _ h2
      omega
    · intro b s a r h
      unfold pBar at h
      split at h
      · rename_i hc
        obtain ⟨x, h1, h2⟩ := bind_some h
        have l1 := i2 _ _ _ h1
        have l2 := i5 _ _ _ _ h2
        have l3 := isC_len hc
        omega
      · injection h with h
        injection h with _ h
        rw [h]; exact Nat.le_refl _

/-- More fuel turns nothing. -/
theorem p_more : ∀ f : Nat, (∀ s x, pOne f s = some x → pOne (f + 1) s = some x) ∧ (∀ s x, pBehind f s = some x → pBehind (f + 1) s = some x) ∧
    (∀ b s x, pSemi f b s = some x → pSemi (f + 1) b s = some x) ∧ (∀ s x, pBeside f s = some x → pBeside (f + 1) s = some x) ∧ (∀ b s x, pBar f b s = some x → pBar (f + 1) b s = some x) := by
  intro f
  induction f with
  | zero => exact ⟨by simp [pOne], by simp [pBehind], by simp [pSemi], by simp [pBeside], by simp [pBar]⟩
  | succ f ih =>
    obtain ⟨i1, i2, i3, i4, i5⟩ := ih
    refine ⟨?_, ?_, ?_, ?_, ?_⟩
    · intro s x h
      unfold pOne at h
      unfold pOne
      split at h
      · rename_i hc
        rw [if_pos hc]
        obtain ⟨y, h1, h2⟩ := bind_some h
        rw [i4 _ _ h1]
        exact h2
      · rename_i hc
        rw [if_neg hc]; exact h
    · intro s x h
      unfold pBehind at h
      obtain ⟨y, h1, h2⟩ := bind_some h
      unfold pBehind
      rw [i1 _ _ h1]
      exact i3 _ _ _ h2
    · intro b s x h
      unfold pSemi at h
      unfold pSemi
      split at h
      · rename_i hc
        rw [if_pos hc]
        obtain ⟨y, h1, h2⟩ := bind_some h
        rw [i1 _ _ h1]
        exact i3 _ _ _ h2
      · rename_i hc
        rw [if_neg hc]; exact h
    · intro s x h
      unfold pBeside at h
      obtain ⟨y, h1, h2⟩ := bind_some h
      unfold pBeside
      rw [i2 _ _ h1]
      exact i5 _ _ _ h2
    · intro b s x h
      unfold pBar at h
      unfold pBar
      split at h
      · rename_i hc
        rw [if_pos hc]
        obtain ⟨y, h1, h2⟩ := bind_some h
        rw [i2 _ _ h1]
        exact i5 _ _ _ h2
      · rename_i hc
        rw [if_neg hc]; exact h

theorem pBeside_more {f g : Nat} (hg : f ≤ g) {s : List UInt8} {x : Wv × List UInt8} (h : pBeside f s = some x) : pBeside g s = some x := by
  obtain ⟨k, rfl⟩ : ∃ k, g = f + k := ⟨g - f, by omega⟩
  clear hg
  induction k with
  | zero => exact h
  | succ k ih => exact (p_more (f + k)).2.2.2.1 _ _ ih
theorem pBar_more {f g : Nat} (hg : f ≤ g) {b : Wv} {s : List UInt8} {x : Wv × List UInt8} (h : pBar f b s = some x) : pBar g b s = some x := by
  obtain ⟨k, rfl⟩ : ∃ k, g = f + k := ⟨g - f, by omega⟩
  clear hg
  induction k with
  | zero => exact h
  | succ k ih => exact (p_more (f + k)).2.2.2.2 _ _ _ ih

/-- What may stand behind a weave that ends there: nothing that would go on with it. -/
def Shut (u : List UInt8) : Prop := ∀ c, u.head? = some c → isDig c = false ∧ c ≠ 59 ∧ c ≠ 124
/-- .. or what goes on beside it. -/
def Half (u : List UInt8) : Prop := ∀ c, u.head? = some c → isDig c = false ∧ c ≠ 59

theorem isC_app {c : UInt8} {s : List UInt8} (u : List UInt8) (h : s ≠ []) : isC c (s ++ u) = isC c s := by
  cases s with
  | nil => exact absurd rfl h
  | cons a l => simp [isC]
theorem isC_ne {c : UInt8} {s : List UInt8} (h : isC c s = true) : s ≠ [] := by
  rintro rfl; simp [isC] at h
theorem tail_app {s : List UInt8} (u : List UInt8) (h : s ≠ []) : (s ++ u).tail = s.tail ++ u := by
  cases s with
  | nil => exact absurd rfl h
  | cons a l => simp

theorem span_app (p : UInt8 → Bool) (s u : List UInt8) (h : s.dropWhile p = [] → ∀ c, u.head? = some c → p c = false) : (s ++ u).takeWhile p = s.takeWhile p ∧ (s ++ u).dropWhile p = s.dropWhile p ++ u := by
  induction s with
  | nil =>
    cases u with
    | nil => simp
    | cons c l =>
      have := h rfl c rfl
      simp [this]
  | cons a l ih =>
    by_cases ha : p a = true
    · have := ih (fun e => h (by simp [ha, e]))
      simp [ha, this.1, this.2]
    · simp [ha]

theorem pNum_app {s r u : List UInt8} {a : Wv} (h : pNum s = some (a, r)) (hu : r = [] → ∀ c, u.head? = some c → isDig c = false) : pNum (s ++ u) = some (a, r ++ u) := by
  unfold pNum at h
  split at h
  · cases h
  · rename_i hn
    injection h with h
    injection h with h1 h
    have hs : s ≠ [] := by rintro rfl; simp at hn
    obtain ⟨e1, e2⟩ := span_app isDig s u (by rw [h]; exact hu)
    unfold pNum
    rw [e1, e2]
    have e3 : (s ++ u).head? = s.head? := by cases s with | nil => exact absurd rfl hs | cons => rfl
    rw [e3, if_neg hn, h1, h]

theorem p_app (u : List UInt8) : ∀ f : Nat,
    (∀ s a r, pOne f s = some (a, r) → (r = [] → Half u ∨ Shut u) → (r = [] → ∀ c, u.head? = some c → isDig c = false) → pOne f (s ++ u) = some (a, r ++ u)) ∧
    (∀ s a r, pBehind f s = some (a, r) → (r = [] → Half u) → pBehind f (s ++ u) = some (a, r ++ u)) ∧
    (∀ b s a r, pSemi f b s = some (a, r) → (r = [] → Half u) → pSemi f b (s ++ u) = some (a, r ++ u)) ∧
    (∀ s a r, pBeside f s = some (a, r) → (r = [] → Shut u) → pBeside f (s ++ u) = some (a, r ++ u)) ∧
    (∀ b s a r, pBar f b s = some (a, r) → (r = [] → Shut u) → pBar f b (s ++ u) = some (a, r ++ u)) := by
  intro f
  induction f with
  | zero => exact ⟨by simp [pOne], by simp [pBehind], by simp [pSemi], by simp [pBeside], by simp [pBar]⟩
  | succ f ih =>
    obtain ⟨i1, i2, i3, i4, i5⟩ := ih
    refine ⟨?_, ?_, ?_, ?_, ?_⟩
    · intro s a r h _ hu
      unfold pOne at h
      unfold pOne
      split at h
      · rename_i hc
        have hne := isC_ne hc
        rw [isC_app u hne, if_pos hc, tail_app u hne]
        obtain ⟨x, h1, h2⟩ := bind_some h
        split at h2
        · rename_i hd
          have hx := isC_ne hd
          rw [i4 _ _ _ h1 (fun e => absurd e hx)]
          injection h2 with h2
          injection h2 with h2 h3
          show (if isC 41 (x.2 ++ u) then _ else _) = _
          rw [isC_app u hx, if_pos hd]
          show some (x.1, (x.2 ++ u).tail) = _
          rw [tail_app u hx, h2, h3]
        · cases h2
      · rename_i hc
        have hne : s ≠ [] := by rintro rfl; simp [pNum] at h
        rw [isC_app u hne, if_neg hc]
        exact pNum_app h hu
    · intro s a r h hu
      unfold pBehind at h
      obtain ⟨x, h1, h2⟩ := bind_some h
      unfold pBehind
      have hr : x.2 = [] → r = [] := fun e => by
        have := (p_len f).2.2.1 _ _ _ _ h2
        rw [e] at this
        exact List.length_eq_zero_iff.1 (by simpa using this)
      rw [i1 _ _ _ h1 (fun e => .inl (hu (hr e))) (fun e c hc => (hu (hr e) c hc).1)]
      exact i3 _ _ _ _ h2 hu
    · intro b s a r h hu
      unfold pSemi at h
      unfold pSemi
      split at h
      · rename_i hc
        have hne := isC_ne hc
        rw [isC_app u hne, if_pos hc, tail_app u hne]
        obtain ⟨x, h1, h2⟩ := bind_some h
        have hr : x.2 = [] → r = [] := fun e => by
          have := (p_len f).2.2.1 _ _ _ _ h2
          rw [e] at this
          exact List.length_eq_zero_iff.1 (by simpa using this)
        rw [i1 _ _ _ h1 (fun e => .inl (hu (hr e))) (fun e c hc => (hu (hr e) c hc).1)]
        exact i3 _ _ _ _ h2 hu
      · rename_i hc
        injection h with h
        injection h with h1 h2
        have hn : ¬ isC 59 (s ++ u) = true := by
          cases s with
          | nil =>
            intro e
            unfold isC at e
            simp only [List.nil_append, beq_iff_eq] at e
            exact (hu h2.symm 59 e).2 rfl
          | cons a l => rw [isC_app u (by simp)]; exact hc
        rw [if_neg hn, h1, h2]
    · intro s a r h hu
      unfold pBeside at h
      obtain ⟨x, h1, h2⟩ := bind_some h
      unfold pBeside
      have hr : x.2 = [] → r = [] := fun e => by
        have := (p_len f).2.2.2.2 _ _ _ _ h2
        rw [e] at this
        exact List.length_eq_zero_iff.1 (by simpa using this)
      rw [i2 _ _ _ h1 (fun e c hc => ⟨(hu (hr e) c hc).1, (hu (hr e) c hc).2.1⟩)]
      exact i5 _ _ _ _ h2 hu
    · intro b s a r h hu
      unfold pBar at h
      unfold pBar
      split at h
      · rename_i hc
        have hne := isC_ne hc
        rw [isC_app u hne, if_pos hc, tail_app u hne]
        obtain ⟨x, h1, h2⟩ := bind_some h
        have hr : x.2 = [] → r = [] := fun e => by
          have := (p_len f).2.2.2.2 _ _ _ _ h2
          rw [e] at this
          exact List.length_eq_zero_iff.1 (by simpa using this)
        rw [i2 _ _ _ h1 (fun e c hc => ⟨(hu (hr e) c hc).1, (hu (hr e) c hc).2.1⟩)]
        exact i5 _ _ _ _ h2 hu
      · rename_i hc
        injection h with h
        injection h with h1 h2
        have hn : ¬ isC 124 (s ++ u) = true := by
          cases s with
          | nil =>
            intro e
            unfold isC at e
            simp only [List.nil_append, beq_iff_eq] at e
            exact (hu h2.symm 124 e).2.2 rfl
          | cons a l => rw [isC_app u (by simp)]; exact hc
        rw [if_neg hn, h1, h2]

end Go.Proofs.YtoofalchkedciaaDoor
