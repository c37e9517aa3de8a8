/-
  Who is above whom, by ways over tasks with small numbers only (for yardref1.Above). No program is named here.
-/
import Derived.Test.YtoofalchkedciaaGreatDoorP7PlanTells
namespace Go.Proofs.YtoofalchkedciaaGreatDoor

/-- k is needed by i over tasks below m. -/
inductive Via (p : PlanL) (m : Nat) : Nat → Nat → Prop
  | one {i k : Nat} : (k : Int) ∈ ndOf p i → Via p m i k
  | two {i j k : Nat} : j < m → Via p m i j → Via p m j k → Via p m i k

theorem Via.succ {p : PlanL} {m i k : Nat} (h : Via p (m + 1) i k) : Via p m i k ∨ (Via p m i m ∧ Via p m m k) := by
  induction h with
  | one h => exact .inl (.one h)
  | @two i j k hj _ _ h1 h2 =>
    by_cases e : j = m
    · subst e
      rcases h1 with h1 | ⟨h1, _⟩ <;> rcases h2 with h2 | ⟨_, h2⟩ <;> exact .inr ⟨h1, h2⟩
    · have hjm : j < m := by omega
      rcases h1 with h1 | ⟨h1, h1'⟩
      · rcases h2 with h2 | ⟨h2, h2'⟩
        · exact .inl (.two hjm h1 h2)
        · exact .inr ⟨.two hjm h1 h2, h2'⟩
      · rcases h2 with h2 | ⟨_, h2'⟩
        · exact .inr ⟨h1, .two hjm h1' h2⟩
        · exact .inr ⟨h1, h2'⟩

theorem Via.reach {p : PlanL} {m i k : Nat} (h : Via p m i k) : Reach p i k := by
  induction h with
  | one h => exact .one h
  | two _ _ _ h1 h2 => exact h1.trans h2

theorem Reach.via {p : PlanL} {i k : Nat} (h : Reach p i k) (hn : ∀ i, ∀ x ∈ ndOf p i, x < (p.length : Int)) : Via p p.length i k := by
  induction h with
  | one h => exact .one h
  | @more k m h1 h2 ih =>
    refine .two (j := k) ?_ ih (.one h2)
    cases h1 with
    | one h => have := hn _ _ h; omega
    | more _ h => have := hn _ _ h; omega

/-- What stands in the table is so. -/
def Sound (p : PlanL) (F : Nat → Nat → Bool) : Prop := ∀ i k, i < p.length → k < p.length → F i k = true → Reach p i k
/-- Who is above over tasks below m stands in the table. -/
def Full (p : PlanL) (m : Nat) (F : Nat → Nat → Bool) : Prop := ∀ i k, i < p.length → k < p.length → Via p m i k → F i k = true
/-- In the rows ahead of i, and in row i ahead of k, it holds for m + 1. -/
def Part (p : PlanL) (m i k : Nat) (F : Nat → Nat → Bool) : Prop := ∀ x y, x < p.length → y < p.length → (x < i ∨ (x = i ∧ y < k)) → Via p (m + 1) x y → F x y = true

/-- A cell of a table is set. -/
def put2 (F : Nat → Nat → Bool) (i k : Nat) : Nat → Nat → Bool := fun x y => if x = i ∧ y = k then true else F x y

theorem put2_ge (F : Nat → Nat → Bool) (i k x y : Nat) (h : F x y = true) : put2 F i k x y = true := by
  unfold put2; split
  · rfl
  · exact h

theorem Part.zero (p : PlanL) (m : Nat) (F : Nat → Nat → Bool) : Part p m 0 0 F := by
  intro x y _ _ h _; omega
theorem Part.row {p : PlanL} {m i : Nat} {F : Nat → Nat → Bool} (h : Part p m i p.length F) : Part p m (i + 1) 0 F := by
  intro x y hx hy h2 hv
  refine h x y hx hy ?_ hv
  rcases h2 with h2 | ⟨h2, h3⟩
  · by_cases e : x = i
    · exact .inr ⟨e, hy⟩
    · exact .inl (by omega)
  · omega
theorem Part.all {p : PlanL} {m : Nat} {F : Nat → Nat → Bool} (h : Part p m p.length 0 F) : Full p (m + 1) F := fun i k hi hk hv => h i k hi hk (.inl hi) hv

theorem Part.skip {p : PlanL} {m i k : Nat} {F : Nat → Nat → Bool} (h : Part p m i k F) (hf : Full p m F) (hi : i < p.length) (hm : m < p.length) (hn : (F i m && F m k) = false) : Part p m i (k + 1) F := by
  intro x y hx hy h2 hv
  by_cases e : x = i ∧ y = k
  · obtain ⟨rfl, rfl⟩ := e
    rcases hv.succ with h3 | ⟨h3, h4⟩
    · exact hf _ _ hx hy h3
    · rw [hf _ _ hx hm h3, hf _ _ hm hy h4] at hn
      cases hn
  · refine h x y hx hy ?_ hv
    rcases h2 with h2 | ⟨rfl, h2⟩
    · exact .inl h2
    · refine .inr ⟨rfl, ?_⟩
      have : y ≠ k := fun e2 => e ⟨rfl, e2⟩
      omega
theorem Part.put {p : PlanL} {m i k : Nat} {F : Nat → Nat → Bool} (h : Part p m i k F) : Part p m i (k + 1) (put2 F i k) := by
  intro x y hx hy h2 hv
  by_cases e : x = i ∧ y = k
  · unfold put2; rw [if_pos e]
  · refine put2_ge _ _ _ _ _ (h x y hx hy ?_ hv)
    rcases h2 with h2 | ⟨rfl, h2⟩
    · exact .inl h2
    · refine .inr ⟨rfl, ?_⟩
      have : y ≠ k := fun e2 => e ⟨rfl, e2⟩
      omega
theorem Full.put {p : PlanL} {m : Nat} {F : Nat → Nat → Bool} (h : Full p m F) (i k : Nat) : Full p m (put2 F i k) := fun x y hx hy hv => put2_ge _ _ _ _ _ (h x y hx hy hv)
theorem Sound.put {p : PlanL} {F : Nat → Nat → Bool} (h : Sound p F) {i m k : Nat} (hi : i < p.length) (hm : m < p.length) (hk : k < p.length) (h1 : (F i m && F m k) = true) : Sound p (put2 F i k) := by
  intro x y hx hy h2
  unfold put2 at h2
  split at h2
  · rename_i e
    obtain ⟨rfl, rfl⟩ := e
    rw [Bool.and_eq_true] at h1
    exact (h _ _ hi hm h1.1).trans (h _ _ hm hk h1.2)
  · exact h x y hx hy h2

/-- The table at first: who is needed. -/
def need2 (p : PlanL) : Nat → Nat → Bool := fun i k => decide ((k : Int) ∈ ndOf p i)
theorem need2_sound (p : PlanL) : Sound p (need2 p) := fun _ _ _ _ h => .one (by simpa [need2] using h)
theorem need2_full (p : PlanL) : Full p 0 (need2 p) := by
  intro i k _ _ h
  cases h with
  | one h => simpa [need2] using h
  | two h _ _ => omega

/- The table at last. -/
open Classical in
noncomputable def aboveOf (p : PlanL) : Nat → Nat → Bool := fun i k => decide (Reach p i k)
theorem above_of {p : PlanL} {F : Nat → Nat → Bool} (h1 : Sound p F) (h2 : Full p p.length F) (hn : ∀ i, ∀ x ∈ ndOf p i, x < (p.length : Int)) (i k : Nat) (hi : i < p.length) (hk : k < p.length) : F i k = aboveOf p i k := by
  unfold aboveOf
  by_cases h : Reach p i k
  · rw [h2 i k hi hk (h.via hn)]; simp [h]
  · cases e : F i k
    · simp [h]
    · exact absurd (h1 i k hi hk e) h

theorem aboveOf_iff (p : PlanL) (i k : Nat) : aboveOf p i k = true ↔ Reach p i k := by
  unfold aboveOf; simp

end Go.Proofs.YtoofalchkedciaaGreatDoor
