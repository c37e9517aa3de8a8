/-
  Plans in plain words: what is wrong with one, who needs whom, an order. No program is named here.
-/
import Derived.Test.YtoofalchkedciaaGreatDoorP1TopGang
namespace Go.Proofs.YtoofalchkedciaaGreatDoor

/-- A plan: of each task its work, and what it needs. -/
abbrev PlanL := List (Int × List Int)
def wkOf (p : PlanL) (i : Nat) : Int := (p[i]?.getD (0, [])).1
def ndOf (p : PlanL) (i : Nat) : List Int := (p[i]?.getD (0, [])).2

theorem ndOf_none (p : PlanL) (i : Nat) (h : p.length ≤ i) : ndOf p i = [] := by
  unfold ndOf; rw [List.getElem?_eq_none h]; rfl

/-- Does a list rise? -/
def rising : List Int → Bool
  | a :: b :: l => decide (a < b) && rising (b :: l)
  | _ => true

/-- A number that is no task of n. -/
def outOf (n : Nat) (k : Int) : Bool := decide (k < 0) || decide ((n : Int) ≤ k)

/-- What is wrong with a task of n. -/
def taskFault (n : Nat) (t : Int × List Int) : Int :=
  if t.1 < 1 ∨ 20 < t.1 ∨ t.2.any (outOf n) = true then 1 else if rising t.2 = true then 0 else 7

theorem rising_nth : ∀ (l : List Int), rising l = true ↔ ∀ k, k + 1 < l.length → nth l k < nth l (k + 1) := by
  intro l
  induction l with
  | nil => simp [rising]
  | cons a l ih =>
    cases l with
    | nil => simp [rising]
    | cons b l =>
      simp only [rising, Bool.and_eq_true, decide_eq_true_eq]
      rw [ih]
      constructor
      · rintro ⟨h1, h2⟩ k hk
        rcases k with _ | k
        · simpa [nth] using h1
        · have := h2 k (by simpa using hk)
          simpa [nth] using this
      · intro h
        refine ⟨by simpa [nth] using h 0 (by simp), fun k hk => ?_⟩
        have := h (k + 1) (by simpa using hk)
        simpa [nth] using this

theorem rising_pair : ∀ (l : List Int), rising l = true → l.Pairwise (· < ·) := by
  intro l
  induction l with
  | nil => intro _; exact List.Pairwise.nil
  | cons a l ih =>
    intro h
    cases l with
    | nil => simp
    | cons b l =>
      simp only [rising, Bool.and_eq_true, decide_eq_true_eq] at h
      have h2 := ih h.2
      refine List.Pairwise.cons ?_ h2
      intro x hx
      rcases List.mem_cons.1 hx with rfl | hx
      · exact h.1
      · exact Int.lt_trans h.1 ((List.pairwise_cons.1 h2).1 x hx)

/-- k is needed by i, or by one that i needs, and so on. -/
inductive Reach (p : PlanL) (i : Nat) : Nat → Prop
  | one {k : Nat} : (k : Int) ∈ ndOf p i → Reach p i k
  | more {k m : Nat} : Reach p i k → (m : Int) ∈ ndOf p k → Reach p i m

theorem Reach.trans {p : PlanL} {i k m : Nat} (h : Reach p i k) (h2 : Reach p k m) : Reach p i m := by
  induction h2 with
  | one h3 => exact .more h h3
  | more _ h3 ih => exact .more ih h3

/-- A plan that is right. -/
structure PlanOk (p : PlanL) : Prop where
  len : p.length ≤ 30
  fault : ∀ i, i < p.length → taskFault p.length (p[i]?.getD (0, [])) = 0
  acyc : ∀ i, i < p.length → ¬ Reach p i i

theorem taskFault_zero {n : Nat} {t : Int × List Int} (h : taskFault n t = 0) : 1 ≤ t.1 ∧ t.1 ≤ 20 ∧ (∀ k ∈ t.2, 0 ≤ k ∧ k < n) ∧ rising t.2 = true := by
  unfold taskFault at h
  split at h
  · cases h
  · rename_i h1
    split at h
    · rename_i h2
      refine ⟨by omega, by omega, fun k hk => ?_, h2⟩
      have h3 : ¬ t.2.any (outOf n) = true := fun h => h1 (.inr (.inr h))
      rw [List.any_eq_true] at h3
      by_cases e : outOf n k = true
      · exact absurd ⟨k, hk, e⟩ h3
      · simp [outOf] at e; omega
    · cases h

theorem PlanOk.work {p : PlanL} (h : PlanOk p) (i : Nat) (hi : i < p.length) : 1 ≤ wkOf p i ∧ wkOf p i ≤ 20 := by
  have := taskFault_zero (h.fault i hi); exact ⟨this.1, this.2.1⟩
theorem PlanOk.need {p : PlanL} (h : PlanOk p) (i : Nat) (k : Int) (hk : k ∈ ndOf p i) : 0 ≤ k ∧ k < p.length := by
  by_cases hi : i < p.length
  · exact (taskFault_zero (h.fault i hi)).2.2.1 k hk
  · rw [ndOf_none p i (by omega)] at hk; cases hk
theorem PlanOk.rise {p : PlanL} (h : PlanOk p) (i : Nat) : rising (ndOf p i) = true := by
  by_cases hi : i < p.length
  · exact (taskFault_zero (h.fault i hi)).2.2.2
  · rw [ndOf_none p i (by omega)]; rfl

/-- A list that rises, of numbers from a on to below b, has at most so many. -/
theorem pairwise_len (l : List Int) (a b : Int) (h : l.Pairwise (· < ·)) (h0 : ∀ x ∈ l, a ≤ x ∧ x < b) : (l.length : Int) ≤ max 0 (b - a) := by
  induction l generalizing a with
  | nil => simp; omega
  | cons x l ih =>
    have hx := h0 x (by simp)
    have := ih (x + 1) (List.pairwise_cons.1 h).2 (fun y hy => ⟨(List.pairwise_cons.1 h).1 y hy, (h0 y (by simp [hy])).2⟩)
    simp only [List.length_cons]
    omega

theorem need_len {n : Nat} {l : List Int} (h1 : rising l = true) (h2 : ∀ k ∈ l, 0 ≤ k ∧ k < (n : Int)) : l.length ≤ n := by
  have := pairwise_len l 0 n (rising_pair l h1) h2
  omega

theorem PlanOk.needs {p : PlanL} (h : PlanOk p) (i : Nat) : (ndOf p i).length ≤ p.length := need_len (h.rise i) (h.need i)

/- What is wrong with a plan: the place, and the fault. -/
open Classical in
noncomputable def planCheck (p : PlanL) : Nat × Int :=
  if 30 < p.length then (0, 4) else
  match (List.range p.length).find? (fun i => decide (taskFault p.length (p[i]?.getD (0, [])) ≠ 0)) with
  | some i => (i, taskFault p.length (p[i]?.getD (0, [])))
  | none =>
    match (List.range p.length).find? (fun i => decide (Reach p i i)) with
    | some i => (i, 8)
    | none => (0, 0)

theorem find_first (n : Nat) (P : Nat → Bool) (i : Nat) (hi : i < n) (hp : P i = true) (hn : ∀ j, j < i → P j = false) : (List.range n).find? P = some i := by
  rw [List.find?_range_eq_some]
  exact ⟨hp, by simpa using hi, fun j hj => by simp [hn j hj]⟩

theorem find_none (n : Nat) (P : Nat → Bool) (hn : ∀ j, j < n → P j = false) : (List.range n).find? P = none := by
  rw [List.find?_eq_none]
  intro x hx
  simp [hn x (by simpa using hx)]

theorem planCheck_full {p : PlanL} (h : 30 < p.length) : planCheck p = (0, 4) := by unfold planCheck; rw [if_pos h]
theorem planCheck_task {p : PlanL} (h : p.length ≤ 30) {i : Nat} {e : Int} (hi : i < p.length) (hn : ∀ j, j < i → taskFault p.length (p[j]?.getD (0, [])) = 0) (he : taskFault p.length (p[i]?.getD (0, [])) = e) (h0 : e ≠ 0) : planCheck p = (i, e) := by
  unfold planCheck
  rw [if_neg (by omega), find_first _ _ i hi (by simp [he, h0]) (fun j hj => by simp [hn j hj])]
  simp only [he]
theorem planCheck_cycle {p : PlanL} (h : p.length ≤ 30) (hf : ∀ j, j < p.length → taskFault p.length (p[j]?.getD (0, [])) = 0) {i : Nat} (hi : i < p.length) (hn : ∀ j, j < i → ¬ Reach p j j) (hc : Reach p i i) : planCheck p = (i, 8) := by
  unfold planCheck
  rw [if_neg (by omega), find_none _ _ (fun j hj => by simp [hf j hj])]
  simp only []
  rw [find_first _ _ i hi (by simp [hc]) (fun j hj => by simp [hn j hj])]
theorem planCheck_ok {p : PlanL} (h : PlanOk p) : planCheck p = (0, 0) := by
  unfold planCheck
  have hl := h.len
  rw [if_neg (by omega), find_none _ _ (fun j hj => by simp [h.fault j hj])]
  simp only []
  rw [find_none _ _ (fun j hj => by simp [h.acyc j hj])]

/-- The fault alone. -/
noncomputable def planFault (p : PlanL) : Int := (planCheck p).2

theorem taskFault_cases (n : Nat) (t : Int × List Int) : taskFault n t = 0 ∨ taskFault n t = 1 ∨ taskFault n t = 7 := by
  unfold taskFault; split
  · exact .inr (.inl rfl)
  · split
    · exact .inl rfl
    · exact .inr (.inr rfl)

/-- A plan is right, or it is wrong somewhere. -/
theorem plan_cases (p : PlanL) : PlanOk p ∨ ∃ i e, planCheck p = (i, e) ∧ (e = 1 ∨ e = 4 ∨ e = 7 ∨ e = 8) := by
  by_cases h1 : p.length ≤ 30
  · by_cases h2 : ∃ i, i < p.length ∧ taskFault p.length (p[i]?.getD (0, [])) ≠ 0
    · right
      have : ∃ i, i < p.length ∧ taskFault p.length (p[i]?.getD (0, [])) ≠ 0 ∧ ∀ j, j < i → taskFault p.length (p[j]?.getD (0, [])) = 0 := by
        obtain ⟨i, hi, h⟩ := h2
        induction i using Nat.strongRecOn with
        | ind i ih =>
          by_cases hx : ∃ j, j < i ∧ taskFault p.length (p[j]?.getD (0, [])) ≠ 0
          · obtain ⟨j, hj, hjn⟩ := hx
            exact ih j hj (by omega) hjn
          · exact ⟨i, hi, h, fun j hj => by
              by_cases e : taskFault p.length (p[j]?.getD (0, [])) = 0
              · exact e
              · exact absurd ⟨j, hj, e⟩ hx⟩
      obtain ⟨i, hi, hne, hn⟩ := this
      refine ⟨i, _, planCheck_task h1 hi hn rfl hne, ?_⟩
      rcases taskFault_cases p.length (p[i]?.getD (0, [])) with h | h | h
      · exact absurd h hne
      · exact .inl h
      · exact .inr (.inr (.inl h))
    · have hf : ∀ j, j < p.length → taskFault p.length (p[j]?.getD (0, [])) = 0 := fun j hj => by
        by_cases e : taskFault p.length (p[j]?.getD (0, [])) = 0
        · exact e
        · exact absurd ⟨j, hj, e⟩ h2
      by_cases h3 : ∃ i, i < p.length ∧ Reach p i i
      · right
        have : ∃ i, i < p.length ∧ Reach p i i ∧ ∀ j, j < i → ¬ Reach p j j := by
          obtain ⟨i, hi, h⟩ := h3
          induction i using Nat.strongRecOn with
          | ind i ih =>
            by_cases hx : ∃ j, j < i ∧ Reach p j j
            · obtain ⟨j, hj, hjn⟩ := hx
              exact ih j hj (by omega) hjn
            · exact ⟨i, hi, h, fun j hj e => hx ⟨j, hj, e⟩⟩
        obtain ⟨i, hi, hc, hn⟩ := this
        exact ⟨i, 8, planCheck_cycle h1 hf hi hn hc, by simp⟩
      · exact .inl ⟨h1, hf, fun i hi e => h3 ⟨i, hi, e⟩⟩
  · exact .inr ⟨0, 4, planCheck_full (by omega), by simp⟩

theorem planOk_iff (p : PlanL) : PlanOk p ↔ planFault p = 0 := by
  constructor
  · intro h; unfold planFault; rw [planCheck_ok h]
  · intro h
    rcases plan_cases p with h1 | ⟨i, e, h1, h2⟩
    · exact h1
    · unfold planFault at h; rw [h1] at h; simp at h; omega

/-- How many tasks i reaches. -/
theorem countP_lt {α : Type} (P Q : α → Bool) (l : List α) (h : ∀ x ∈ l, P x = true → Q x = true) (h2 : ∃ x ∈ l, Q x = true ∧ P x = false) : l.countP P < l.countP Q := by
  induction l with
  | nil => obtain ⟨x, hx, _⟩ := h2; cases hx
  | cons a l ih =>
    have hm := List.countP_mono_left (l := l) (p := P) (q := Q) (fun x hx => h x (by simp [hx]))
    obtain ⟨x, hx, h3, h4⟩ := h2
    rw [List.countP_cons, List.countP_cons]
    rcases List.mem_cons.1 hx with rfl | hx
    · simp [h3, h4]; omega
    · have := ih (fun x hx => h x (by simp [hx])) ⟨x, hx, h3, h4⟩
      have h5 := h a (by simp)
      split
      · rename_i e; rw [if_pos (h5 e)]; omega
      · split <;> omega

open Classical in
noncomputable def rk (p : PlanL) (i : Nat) : Nat := (List.range p.length).countP (fun j => decide (Reach p i j))

theorem rk_lt {p : PlanL} (h : PlanOk p) {i k : Nat} (hk : (k : Int) ∈ ndOf p i) : rk p k < rk p i := by
  have hkn := (h.need i k hk).2
  unfold rk
  refine countP_lt _ _ _ (fun x _ hx => ?_) ⟨k, by simp; omega, ?_, ?_⟩
  · simp at hx ⊢
    exact (Reach.one hk).trans hx
  · simpa using Reach.one hk
  · simpa using h.acyc k (by omega)

/-- Is a task ready, where D tells what is done? -/
def readyB (p : PlanL) (D : Nat → Bool) (i : Nat) : Bool := !D i && (ndOf p i).all (fun k => D k.toNat)

/-- While not all are done one is ready. -/
theorem exists_ready {p : PlanL} (h : PlanOk p) (D : Nat → Bool) (hx : ∃ i, i < p.length ∧ D i = false) : ∃ i, i < p.length ∧ readyB p D i = true := by
  obtain ⟨i, hi, hD⟩ := hx
  obtain ⟨r, hr⟩ : ∃ r, rk p i = r := ⟨_, rfl⟩
  induction r using Nat.strongRecOn generalizing i with
  | ind r ih =>
    by_cases ha : (ndOf p i).all (fun k => D k.toNat) = true
    · exact ⟨i, hi, by simp [readyB, hD, ha]⟩
    · rw [List.all_eq_true] at ha
      have : ∃ k ∈ ndOf p i, D k.toNat = false := by
        by_cases e : ∃ k ∈ ndOf p i, D k.toNat = false
        · exact e
        · exact absurd (fun k hk => by
            cases hd : D k.toNat
            · exact absurd ⟨k, hk, hd⟩ e
            · rfl) ha
      obtain ⟨k, hk, hkD⟩ := this
      have hb := h.need i k hk
      have hk' : ((k.toNat : Nat) : Int) ∈ ndOf p i := by rw [Int.toNat_of_nonneg hb.1]; exact hk
      exact ih _ (by rw [← hr]; exact rk_lt h hk') k.toNat (by omega) hkD rfl

/-- The first one that is ready. -/
def nextReady (p : PlanL) (D : Nat → Bool) : Option Nat := (List.range p.length).find? (readyB p D)

/-- The first k of the order. -/
def topo (p : PlanL) : Nat → List Nat
  | 0 => []
  | k + 1 => match nextReady p (fun j => (topo p k).contains j) with
    | some i => topo p k ++ [i]
    | none => topo p k

/-- The order of a plan. -/
def orderOf (p : PlanL) : List Nat := topo p p.length

theorem topo_lt (p : PlanL) (k : Nat) : ∀ i ∈ topo p k, i < p.length := by
  induction k with
  | zero => intro i hi; cases hi
  | succ k ih =>
    intro i hi
    unfold topo at hi
    split at hi
    · rename_i m hm
      rcases List.mem_append.1 hi with hi | hi
      · exact ih i hi
      · have : i = m := by simpa using hi
        subst this
        have := (List.find?_range_eq_some.1 hm).2.1
        simpa using this
    · exact ih i hi

theorem nodup_len (l : List Nat) (n : Nat) (h : l.Nodup) (h2 : ∀ x ∈ l, x < n) : l.length ≤ n := by
  have := List.Nodup.length_le_of_subset (l₁ := l) (l₂ := List.range n) h (fun x hx => by simpa using h2 x hx)
  simpa using this

/-- Not all are in a list that is shorter. -/
theorem exists_notin (l : List Nat) (n : Nat) (h : l.length < n) : ∃ i, i < n ∧ l.contains i = false := by
  by_cases e : ∃ i, i < n ∧ l.contains i = false
  · exact e
  · have : (List.range n).length ≤ l.length := List.Nodup.length_le_of_subset List.nodup_range (fun x hx => by
      have hx' : x < n := by simpa using hx
      cases hc : l.contains x
      · exact absurd ⟨x, hx', hc⟩ e
      · simpa using hc)
    simp at this
    omega

theorem topo_step {p : PlanL} (h : PlanOk p) (k : Nat) (hk : k < p.length) (hl : (topo p k).length = k) :
    ∃ i, i < p.length ∧ readyB p (fun j => (topo p k).contains j) i = true ∧ (∀ j, j < i → readyB p (fun j => (topo p k).contains j) j = false) ∧ topo p (k + 1) = topo p k ++ [i] := by
  obtain ⟨i0, h1, h2⟩ := exists_ready h (fun j => (topo p k).contains j) (exists_notin (topo p k) p.length (by omega))
  cases hn : nextReady p (fun j => (topo p k).contains j) with
  | none =>
    have := (List.find?_eq_none.1 hn) i0 (by simpa using h1)
    exact absurd h2 this
  | some i =>
    have hf := List.find?_range_eq_some.1 hn
    refine ⟨i, by simpa using hf.2.1, hf.1, fun j hj => by simpa using hf.2.2 j hj, ?_⟩
    show (match nextReady p (fun j => (topo p k).contains j) with | some i => topo p k ++ [i] | none => topo p k) = _
    rw [hn]

theorem topo_len {p : PlanL} (h : PlanOk p) (k : Nat) (hk : k ≤ p.length) : (topo p k).length = k := by
  induction k with
  | zero => rfl
  | succ k ih =>
    obtain ⟨i, _, _, _, e⟩ := topo_step h k (by omega) (ih (by omega))
    rw [e]; simp [ih (by omega)]

theorem topo_nodup {p : PlanL} (h : PlanOk p) (k : Nat) (hk : k ≤ p.length) : (topo p k).Nodup := by
  induction k with
  | zero => exact List.Pairwise.nil
  | succ k ih =>
    obtain ⟨i, _, h2, _, e⟩ := topo_step h k (by omega) (topo_len h k (by omega))
    rw [e]
    have hni : i ∉ topo p k := by simp [readyB] at h2; exact h2.1
    rw [List.nodup_append]
    exact ⟨ih (by omega), by simp, fun a ha b hb => by simp at hb; subst hb; exact fun e => hni (e ▸ ha)⟩

/-- The order is all tasks, each once. -/
theorem orderOf_mem {p : PlanL} (h : PlanOk p) (i : Nat) : i ∈ orderOf p ↔ i < p.length := by
  constructor
  · exact topo_lt p _ i
  · intro hi
    by_cases e : i ∈ orderOf p
    · exact e
    · have h1 : (i :: orderOf p).Nodup := List.nodup_cons.2 ⟨e, topo_nodup h _ (Nat.le_refl _)⟩
      have := nodup_len _ p.length h1 (fun x hx => by
        rcases List.mem_cons.1 hx with rfl | hx
        · exact hi
        · exact topo_lt p _ x hx)
      have hl := topo_len h p.length (Nat.le_refl _)
      simp only [List.length_cons] at this
      unfold orderOf at this
      omega

/-- The order's k-th is ready behind those ahead. -/
theorem topo_pre {p : PlanL} (k m : Nat) (hkm : k ≤ m) : topo p k <+: topo p m := by
  induction m with
  | zero => obtain rfl : k = 0 := by omega
            exact List.prefix_rfl
  | succ m ih =>
    rcases Nat.lt_or_ge m k with hlt | hge
    · obtain rfl : k = m + 1 := by omega
      exact List.prefix_rfl
    · refine (ih hge).trans ?_
      show topo p m <+: (match nextReady p (fun j => (topo p m).contains j) with | some i => topo p m ++ [i] | none => topo p m)
      split
      · exact List.prefix_append _ _
      · exact List.prefix_rfl

theorem topo_take {p : PlanL} (h : PlanOk p) (k : Nat) (hk : k ≤ p.length) : (orderOf p).take k = topo p k := by
  have := (topo_pre (p := p) k p.length hk)
  obtain ⟨t, ht⟩ := this
  unfold orderOf
  rw [← ht]
  have hl := topo_len h k hk
  rw [List.take_append_of_le_length (by omega), List.take_of_length_le (by omega)]

theorem orderOf_ready {p : PlanL} (h : PlanOk p) (k : Nat) (i : Nat) (hi : (orderOf p)[k]? = some i) : i < p.length ∧ readyB p (fun j => ((orderOf p).take k).contains j) i = true := by
  have hl := topo_len h p.length (Nat.le_refl _)
  have hk : k < p.length := by
    rcases Nat.lt_or_ge k p.length with hlt | hge
    · exact hlt
    · rw [List.getElem?_eq_none (by unfold orderOf; omega)] at hi; cases hi
  obtain ⟨i', h1, h2, _, e⟩ := topo_step h k hk (topo_len h k (by omega))
  have e2 := topo_take h (k + 1) (by omega)
  have e3 := topo_take h k (by omega)
  rw [e] at e2
  have e4 : (orderOf p)[k]? = some i' := by
    have h5 : ((orderOf p).take (k + 1))[k]? = some i' := by
      rw [e2, List.getElem?_append_right (by rw [topo_len h k (by omega)]; exact Nat.le_refl _), topo_len h k (by omega)]
      simp
    rw [List.getElem?_take] at h5
    simpa using h5
  rw [e4] at hi
  cases hi
  rw [e3]
  exact ⟨h1, h2⟩

/-- Who comes after a task. -/
def afterOf (p : PlanL) (i : Int) : List Nat := (List.range p.length).filter (fun k => (ndOf p k).contains i)

end Go.Proofs.YtoofalchkedciaaGreatDoor
