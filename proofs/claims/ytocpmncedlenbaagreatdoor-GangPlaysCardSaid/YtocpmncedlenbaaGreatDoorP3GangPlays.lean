/-
  Plans in plain words: what is wrong with one, who needs whom, an order. No program is named here.
  Plans in memory: one that came in, one that the call itself made.
-/
import Derived.Test.YtocpmncedlenbaaGreatDoorP1GangPlays
import Derived.Test.YtocpmncedlenbaaGreatDoorP2GangPlays
namespace Go.Proofs.YtocpmncedlenbaaGreatDoor

/-- A plan: of each task its work, and what it needs. -/
abbrev PlanL := List (Int × List Int)
def wkOf (p : PlanL) (i : Nat) : Int := (p[i]?.getD (0, [])).1
def ndOf (p : PlanL) (i : Nat) : List Int := (p[i]?.getD (0, [])).2

theorem ndOf_none (p : PlanL) (i : Nat) (h : p.length ≤ i) : ndOf p i = [] := by
  unfold ndOf; rw [List.getElem?_eq_none h]; rfl

/-- Does a list rise? -/
def rising : List Int → Bool
  | a :: b :: l => decide (a < b) && rising (b :: l)
  | _ => true

/-- A number that is no task of n. -/
def outOf (n : Nat) (k : Int) : Bool := decide (k < 0) || decide ((n : Int) ≤ k)

/-- What is wrong with a task of n. -/
def taskFault (n : Nat) (t : Int × List Int) : Int :=
  if t.1 < 1 ∨ 20 < t.1 ∨ t.2.any (outOf n) = true then 1 else if rising t.2 = true then 0 else 7

theorem rising_nth : ∀ (l : List Int), rising l = true ↔ ∀ k, k + 1 < l.length → nth l k < nth l (k + 1) := by
  intro l
  induction l with
  | nil => simp [rising]
  | cons a l ih =>
    cases l with
    | nil => simp [rising]
    | cons b l =>
      simp only [rising, Bool.and_eq_true, decide_eq_true_eq]
      rw [ih]
      constructor
      · rintro ⟨h1, h2⟩ k hk
        rcases k with _ | k
        · simpa [nth] using h1
        · have := h2 k (by simpa using hk)
          simpa [nth] using this
      · intro h
        refine ⟨by simpa [nth] using h 0 (by simp), fun k hk => ?_⟩
        have := h (k + 1) (by simpa using hk)
        simpa [nth] using this

theorem rising_pair : ∀ (l : List Int), rising l = true → l.Pairwise (· < ·) := by
  intro l
  induction l with
  | nil => intro _; exact List.Pairwise.nil
  | cons a l ih =>
    intro h
    cases l with
    | nil => simp
    | cons b l =>
      simp only [rising, Bool.and_eq_true, decide_eq_true_eq] at h
      have h2 := ih h.2
      refine List.Pairwise.cons ?_ h2
      intro x hx
      rcases List.mem_cons.1 hx with rfl | hx
      · exact h.1
      · exact Int.lt_trans h.1 ((List.pairwise_cons.1 h2).1 x hx)

/-- k is needed by i, or by one that i needs, and so on. -/
inductive Reach (p : PlanL) (i : Nat) : Nat → Prop
  | one {k : Nat} : (k : Int) ∈ ndOf p i → Reach p i k
  | more {k m : Nat} : Reach p i k → (m : Int) ∈ ndOf p k → Reach p i m

theorem Reach.trans {p : PlanL} {i k m : Nat} (h : Reach p i k) (h2 : Reach p k m) : Reach p i m := by
  induction h2 with
  | one h3 => exact .more h h3
  | more _ h3 ih => exact .more ih h3

/-- A plan that is right. -/
structure PlanOk (p : PlanL) : Prop where
  len : p.length ≤ 30
  fault : ∀ i, i < p.length → taskFault p.length (p[i]?.getD (0, [])) = 0
  acyc : ∀ i, i < p.length → ¬ Reach p i i

theorem taskFault_zero {n : Nat} {t : Int × List Int} (h : taskFault n t = 0) : 1 ≤ t.1 ∧ t.1 ≤ 20 ∧ (∀ k ∈ t.2, 0 ≤ k ∧ k < n) ∧ rising t.2 = true := by
  unfold taskFault at h
  split at h
  · cases h
  · rename_i h1
    split at h
    · rename_i h2
      refine ⟨by omega, by omega, fun k hk => ?_, h2⟩
      have h3 : ¬ t.2.any (outOf n) = true := fun h => h1 (.inr (.inr h))
      rw [List.any_eq_true] at h3
      by_cases e : outOf n k = true
      · exact absurd ⟨k, hk, e⟩ h3
      · simp [outOf] at e; omega
    · cases h

theorem PlanOk.work {p : PlanL} (h : PlanOk p) (i : Nat) (hi : i < p.length) : 1 ≤ wkOf p i ∧ wkOf p i ≤ 20 := by
  have := taskFault_zero (h.fault i hi); exact ⟨this.1, this.2.1⟩
theorem PlanOk.need {p : PlanL} (h : PlanOk p) (i : Nat) (k : Int) (hk : k ∈ ndOf p i) : 0 ≤ k ∧ k < p.length := by
  by_cases hi : i < p.length
  · exact (taskFault_zero (h.fault i hi)).2.2.1 k hk
  · rw [ndOf_none p i (by omega)] at hk; cases hk
theorem PlanOk.rise {p : PlanL} (h : PlanOk p) (i : Nat) : rising (ndOf p i) = true := by
  by_cases hi : i < p.length
  · exact (taskFault_zero (h.fault i hi)).2.2.2
  · rw [ndOf_none p i (by omega)]; rfl

/-- A list that rises, of numbers from a on to below b, has at most so many. -/
theorem pairwise_len (l : List Int) (a b : Int) (h : l.Pairwise (· < ·)) (h0 : ∀ x ∈ l, a ≤ x ∧ x < b) : (l.length : Int) ≤ max 0 (b - a) := by
  induction l generalizing a with
  | nil => simp; omega
  | cons x l ih =>
    have hx := h0 x (by simp)
    have := ih (x + 1) (List.pairwise_cons.1 h).2 (fun y hy => ⟨(List.pairwise_cons.1 h).1 y hy, (h0 y (by simp [hy])).2⟩)
    simp only [List.length_cons]
    omega

theorem need_len {n : Nat} {l : List Int} (h1 : rising l = true) (h2 : ∀ k ∈ l, 0 ≤ k ∧ k < (n : Int)) : l.length ≤ n := by
  have := pairwise_len l 0 n (rising_pair l h1) h2
  omega

theorem PlanOk.needs {p : PlanL} (h : PlanOk p) (i : Nat) : (ndOf p i).length ≤ p.length := need_len (h.rise i) (h.need i)

/- What is wrong with a plan: the place, and the fault. -/
open Classical in
noncomputable def planCheck (p : PlanL) : Nat × Int :=
  if 30 < p.length then (0, 4) else
  match (List.range p.length).find? (fun i => decide (taskFault p.length (p[i]?.getD (0, [])) ≠ 0)) with
  | some i => (i, taskFault p.length (p[i]?.getD (0, [])))
  | none =>
    match (List.range p.length).find? (fun i => decide (Reach p i i)) with
    | some i => (i, 8)
    | none => (0, 0)

theorem find_first (n : Nat) (P : Nat → Bool) (i : Nat) (hi : i < n) (hp : P i = true) (hn : ∀ j, j < i → P j = false) : (List.range n).find? P = some i := by
  rw [List.find?_range_eq_some]
  exact ⟨hp, by simpa using hi, fun j hj => by simp [hn j hj]⟩

theorem find_none (n : Nat) (P : Nat → Bool) (hn : ∀ j, j < n → P j = false) : (List.range n).find? P = none := by
  rw [List.find?_eq_none]
  intro x hx
  simp [hn x (by simpa using hx)]

theorem planCheck_full {p : PlanL} (h : 30 < p.length) : planCheck p = (0, 4) := by unfold planCheck; rw [if_pos h]
theorem planCheck_task {p : PlanL} (h : p.length ≤ 30) {i : Nat} {e : Int} (hi : i < p.length) (hn : ∀ j, j < i → taskFault p.length (p[j]?.getD (0, [])) = 0) (he : taskFault p.length (p[i]?.getD (0, [])) = e) (h0 : e ≠ 0) : planCheck p = (i, e) := by
  unfold planCheck
  rw [if_neg (by omega), find_first _ _ i hi (by simp [he, h0]) (fun j hj => by simp [hn j hj])]
  simp only [he]
theorem planCheck_cycle {p : PlanL} (h : p.length ≤ 30) (hf : ∀ j, j < p.length → taskFault p.length (p[j]?.getD (0, [])) = 0) {i : Nat} (hi : i < p.length) (hn : ∀ j, j < i → ¬ Reach p j j) (hc : Reach p i i) : planCheck p = (i, 8) := by
  unfold planCheck
  rw [if_neg (by omega), find_none _ _ (fun j hj => by simp [hf j hj])]
  simp only []
  rw [find_first _ _ i hi (by simp [hc]) (fun j hj => by simp [hn j hj])]
theorem planCheck_ok {p : PlanL} (h : PlanOk p) : planCheck p = (0, 0) := by
  unfold planCheck
  have hl := h.len
  rw [if_neg (by omega), find_none _ _ (fun j hj => by simp [h.fault j hj])]
  simp only []
  rw [find_none _ _ (fun j hj => by simp [h.acyc j hj])]

/-- The fault alone. -/
noncomputable def planFault (p : PlanL) : Int := (planCheck p).2

theorem taskFault_cases (n : Nat) (t : Int × List Int) : taskFault n t = 0 ∨ taskFault n t = 1 ∨ taskFault n t = 7 := by
  unfold taskFault; split
  · exact .inr (.inl rfl)
  · split
    · exact .inl rfl
    · exact .inr (.inr rfl)

/-- A plan is right, or it is wrong somewhere. -/
theorem plan_cases (p : PlanL) : PlanOk p ∨ ∃ i e, planCheck p = (i, e) ∧ (e = 1 ∨ e = 4 ∨ e = 7 ∨ e = 8) := by
  by_cases h1 : p.length ≤ 30
  · by_cases h2 : ∃ i, i < p.length ∧ taskFault p.length (p[i]?.getD (0, [])) ≠ 0
    · right
      have : ∃ i, i < p.length ∧ taskFault p.length (p[i]?.getD (0, [])) ≠ 0 ∧ ∀ j, j < i → taskFault p.length (p[j]?.getD (0, [])) = 0 := by
        obtain ⟨i, hi, h⟩ := h2
        induction i using Nat.strongRecOn with
        | ind i ih =>
          by_cases hx : ∃ j, j < i ∧ taskFault p.length (p[j]?.getD (0, [])) ≠ 0
          · obtain ⟨j, hj, hjn⟩ := hx
            exact ih j hj (by omega) hjn
          · exact ⟨i, hi, h, fun j hj => by
              by_cases e : taskFault p.length (p[j]?.getD (0, [])) = 0
              · exact e
              · exact absurd ⟨j, hj, e⟩ hx⟩
      obtain ⟨i, hi, hne, hn⟩ := this
      refine ⟨i, _, planCheck_task h1 hi hn rfl hne, ?_⟩
      rcases taskFault_cases p.length (p[i]?.getD (0, [])) with h | h | h
      · exact absurd h hne
      · exact .inl h
      · exact .inr (.inr (.inl h))
    · have hf : ∀ j, j < p.length → taskFault p.length (p[j]?.getD (0, [])) = 0 := fun j hj => by
        by_cases e : taskFault p.length (p[j]?.getD (0, [])) = 0
        · exact e
        · exact absurd ⟨j, hj, e⟩ h2
      by_cases h3 : ∃ i, i < p.length ∧ Reach p i i
      · right
        have : ∃ i, i < p.length ∧ Reach p i i ∧ ∀ j, j < i → ¬ Reach p j j := by
          obtain ⟨i, hi, h⟩ := h3
          induction i using Nat.strongRecOn with
          | ind i ih =>
            by_cases hx : ∃ j, j < i ∧ Reach p j j
            · obtain ⟨j, hj, hjn⟩ := hx
              exact ih j hj (by omega) hjn
            · exact ⟨i, hi, h, fun j hj e => hx ⟨j, hj, e⟩⟩
        obtain ⟨i, hi, hc, hn⟩ := this
        exact ⟨i, 8, planCheck_cycle h1 hf hi hn hc, by simp⟩
      · exact .inl ⟨h1, hf, fun i hi e => h3 ⟨i, hi, e⟩⟩
  · exact .inr ⟨0, 4, planCheck_full (by omega), by simp⟩

theorem planOk_iff (p : PlanL) : PlanOk p ↔ planFault p = 0 := by
  constructor
  · intro h; unfold planFault; rw [planCheck_ok h]
  · intro h
    rcases plan_cases p with h1 | ⟨i, e, h1, h2⟩
    · exact h1
    · unfold planFault at h; rw [h1] at h; simp at h; omega

/-- How many tasks i reaches. -/
theorem countP_lt {α : Type} (P Q : α → Bool) (l : List α) (h : ∀ x ∈ l, P x = true → Q x = true) (h2 : ∃ x ∈ l, Q x = true ∧ P x = false) : l.countP P < l.countP Q := by
  induction l with
  | nil => obtain ⟨x, hx, _⟩ := h2; cases hx
  | cons a l ih =>
    have hm := List.countP_mono_left (l := l) (p := P) (q := Q) (fun x hx => h x (by simp [hx]))
    obtain ⟨x, hx, h3, h4⟩ := h2
    rw [List.countP_cons, List.countP_cons]
    rcases List.mem_cons.1 hx with rfl | hx
    · simp [h3, h4]; omega
    · have := ih (fun x hx => h x (by simp [hx])) ⟨x, hx, h3, h4⟩
      have h5 := h a (by simp)
      split
      · rename_i e; rw [if_pos (h5 e)]; omega
      · split <;> omega

open Classical in
noncomputable def rk (p : PlanL) (i : Nat) : Nat := (List.range p.length).countP (fun j => decide (Reach p i j))

theorem rk_lt {p : PlanL} (h : PlanOk p) {i k : Nat} (hk : (k : Int) ∈ ndOf p i) : rk p k < rk p i := by
  have hkn := (h.need i k hk).2
  unfold rk
  refine countP_lt _ _ _ (fun x _ hx => ?_) ⟨k, by simp; omega, ?_, ?_⟩
  · simp at hx ⊢
    exact (Reach.one hk).trans hx
  · simpa using Reach.one hk
  · simpa using h.acyc k (by omega)

/-- Is a task ready, where D tells what is done? -/
def readyB (p : PlanL) (D : Nat → Bool) (i : Nat) : Bool := !D i && (ndOf p i).all (fun k => D k.toNat)

/-- While not all are done one is ready. -/
theorem exists_ready {p : PlanL} (h : PlanOk p) (D : Nat → Bool) (hx : ∃ i, i < p.length ∧ D i = false) : ∃ i, i < p.length ∧ readyB p D i = true := by
  obtain ⟨i, hi, hD⟩ := hx
  obtain ⟨r, hr⟩ : ∃ r, rk p i = r := ⟨_, rfl⟩
  induction r using Nat.strongRecOn generalizing i with
  | ind r ih =>
    by_cases ha : (ndOf p i).all (fun k => D k.toNat) = true
    · exact ⟨i, hi, by simp [readyB, hD, ha]⟩
    · rw [List.all_eq_true] at ha
      have : ∃ k ∈ ndOf p i, D k.toNat = false := by
        by_cases e : ∃ k ∈ ndOf p i, D k.toNat = false
        · exact e
        · exact absurd (fun k hk => by
            cases hd : D k.toNat
            · exact absurd ⟨k, hk, hd⟩ e
            · rfl) ha
      obtain ⟨k, hk, hkD⟩ := this
      have hb := h.need i k hk
      have hk' : ((k.toNat : Nat) : Int) ∈ ndOf p i := by rw [Int.toNat_of_nonneg hb.1]; exact hk
      exact ih _ (by rw [← hr]; exact rk_lt h hk') k.toNat (by omega) hkD rfl

/-- The first one that is ready. -/
def nextReady (p : PlanL) (D : Nat → Bool) : Option Nat := (List.range p.length).find? (readyB p D)

/-- The first k of the order. -/
def topo (p : PlanL) : Nat → List Nat
  | 0 => []
  | k + 1 => match nextReady p (fun j => (topo p k).contains j) with
    | some i => topo p k ++ [i]
    | none => topo p k

/-- The order of a plan. -/
def orderOf (p : PlanL) : List Nat := topo p p.length

theorem topo_lt (p : PlanL) (k : Nat) : ∀ i ∈ topo p k, i < p.length := by
  induction k with
  | zero => intro i hi; cases hi
  | succ k ih =>
    intro i hi
    unfold topo at hi
    split at hi
    · rename_i m hm
      rcases List.mem_append.1 hi with hi | hi
      · exact ih i hi
      · have : i = m := by simpa using hi
        subst this
        have := (List.find?_range_eq_some.1 hm).2.1
        simpa using this
    · exact ih i hi

theorem nodup_len (l : List Nat) (n : Nat) (h : l.Nodup) (h2 : ∀ x ∈ l, x < n) : l.length ≤ n := by
  have := List.Nodup.length_le_of_subset (l₁ := l) (l₂ := List.range n) h (fun x hx => by simpa using h2 x hx)
  simpa using this

/-- Not all are in a list that is shorter. -/
theorem exists_notin (l : List Nat) (n : Nat) (h : l.length < n) : ∃ i, i < n ∧ l.contains i = false := by
  by_cases e : ∃ i, i < n ∧ l.contains i = false
  · exact e
  · have : (List.range n).length ≤ l.length := List.Nodup.length_le_of_subset List.nodup_range (fun x hx => by
      have hx' : x < n := by simpa using hx
      cases hc : l.contains x
      · exact absurd ⟨x, hx', hc⟩ e
      · simpa using hc)
    simp at this
    omega

theorem topo_step {p : PlanL} (h : PlanOk p) (k : Nat) (hk : k < p.length) (hl : (topo p k).length = k) :
    ∃ i, i < p.length ∧ readyB p (fun j => (topo p k).contains j) i = true ∧ (∀ j, j < i → readyB p (fun j => (topo p k).contains j) j = false) ∧ topo p (k + 1) = topo p k ++ [i] := by
  obtain ⟨i0, h1, h2⟩ := exists_ready h (fun j => (topo p k).contains j) (exists_notin (topo p k) p.length (by omega))
  cases hn : nextReady p (fun j => (topo p k).contains j) with
  | none =>
    have := (List.find?_eq_none.1 hn) i0 (by simpa using h1)
    exact absurd h2 this
  | some i =>
    have hf := List.find?_range_eq_some.1 hn
    refine ⟨i, by simpa using hf.2.1, hf.1, fun j hj => by simpa using hf.2.2 j hj, ?_⟩
    show (match nextReady p (fun j => (topo p k).contains j) with | some i => topo p k ++ [i] | none => topo p k) = _
    rw [hn]

theorem topo_len {p : PlanL} (h : PlanOk p) (k : Nat) (hk : k ≤ p.length) : (topo p k).length = k := by
  induction k with
  | zero => rfl
  | succ k ih =>
    obtain ⟨i, _, _, _, e⟩ := topo_step h k (by omega) (ih (by omega))
    rw [e]; simp [ih (by omega)]

theorem topo_nodup {p : PlanL} (h : PlanOk p) (k : Nat) (hk : k ≤ p.length) : (topo p k).Nodup := by
  induction k with
  | zero => exact List.Pairwise.nil
  | succ k ih =>
    obtain ⟨i, _, h2, _, e⟩ := topo_step h k (by omega) (topo_len h k (by omega))
    rw [e]
    have hni : i ∉ topo p k := by simp [readyB] at h2; exact h2.1
    rw [List.nodup_append]
    exact ⟨ih (by omega), by simp, fun a ha b hb => by simp at hb; subst hb; exact fun e => hni (e ▸ ha)⟩

/-- The order is all tasks, each once. -/
theorem orderOf_mem {p : PlanL} (h : PlanOk p) (i : Nat) : i ∈ orderOf p ↔ i < p.length := by
  constructor
  · exact topo_lt p _ i
  · intro hi
    by_cases e : i ∈ orderOf p
    · exact e
    · have h1 : (i :: orderOf p).Nodup := List.nodup_cons.2 ⟨e, topo_nodup h _ (Nat.le_refl _)⟩
      have := nodup_len _ p.length h1 (fun x hx => by
        rcases List.mem_cons.1 hx with rfl | hx
        · exact hi
        · exact topo_lt p _ x hx)
      have hl := topo_len h p.length (Nat.le_refl _)
      simp only [List.length_cons] at this
      unfold orderOf at this
      omega

/-- The order's k-th is ready behind those ahead. -/
theorem topo_pre {p : PlanL} (k m : Nat) (hkm : k ≤ m) : topo p k <+: topo p m := by
  induction m with
  | zero => obtain rfl : k = 0 := by omega
            exact List.prefix_rfl
  | succ m ih =>
    rcases Nat.lt_or_ge m k with hlt | hge
    · obtain rfl : k = m + 1 := by omega
      exact List.prefix_rfl
    · refine (ih hge).trans ?_
      show topo p m <+: (match nextReady p (fun j => (topo p m).contains j) with | some i => topo p m ++ [i] | none => topo p m)
      split
      · exact List.prefix_append _ _
      · exact List.prefix_rfl

theorem topo_take {p : PlanL} (h : PlanOk p) (k : Nat) (hk : k ≤ p.length) : (orderOf p).take k = topo p k := by
  have := (topo_pre (p := p) k p.length hk)
  obtain ⟨t, ht⟩ := this
  unfold orderOf
  rw [← ht]
  have hl := topo_len h k hk
  rw [List.take_append_of_le_length (by omega), List.take_of_length_le (by omega)]

theorem orderOf_ready {p : PlanL} (h : PlanOk p) (k : Nat) (i : Nat) (hi : (orderOf p)[k]? = some i) : i < p.length ∧ readyB p (fun j => ((orderOf p).take k).contains j) i = true := by
  have hl := topo_len h p.length (Nat.le_refl _)
  have hk : k < p.length := by
    rcases Nat.lt_or_ge k p.length with hlt | hge
    · exact hlt
    · rw [List.getElem?_eq_none (by unfold orderOf; omega)] at hi; cases hi
  obtain ⟨i', h1, h2, _, e⟩ := topo_step h k hk (topo_len h k (by omega))
  have e2 := topo_take h (k + 1) (by omega)
  have e3 := topo_take h k (by omega)
  rw [e] at e2
  have e4 : (orderOf p)[k]? = some i' := by
    have h5 : ((orderOf p).take (k + 1))[k]? = some i' := by
      rw [e2, List.getElem?_append_right (by rw [topo_len h k (by omega)]; exact Nat.le_refl _), topo_len h k (by omega)]
      simp
    rw [List.getElem?_take] at h5
    simpa using h5
  rw [e4] at hi
  cases hi
  rw [e3]
  exact ⟨h1, h2⟩

/-- Who comes after a task. -/
def afterOf (p : PlanL) (i : Int) : List Nat := (List.range p.length).filter (fun k => (ndOf p k).contains i)

end Go.Proofs.YtocpmncedlenbaaGreatDoor

namespace Go.Proofs.YtocpmncedlenbaaGreatDoor
open Go.RowKit Go.Deep Go.ChangeShapes Go.WideShapes

/-- The value v is a plan; the blocks that it is read from are among those that F names. -/
def PlanAt (w : World) (F : Nat → Prop) (v : Value) (p : PlanL) : Prop :=
  ∃ N : Nat → Value, Pairs w v p.length (fun i => .int .i64 (wkOf p i)) N ∧ (∀ i, i < p.length → Reads w (N i) (ndOf p i)) ∧ (0 < p.length → ∀ x ∈ own v, F x) ∧ ∀ i, i < p.length → ndOf p i ≠ [] → ∀ x ∈ own (N i), F x

/-- .. wherever it lies. -/
def InPlan (w : World) (v : Value) (p : PlanL) : Prop := PlanAt w (fun _ => True) v p

theorem Reads.only' {w w' : World} {v : Value} {l : List Int} {S : List Nat} (h : Reads w v l) (ho : Only S w w') (hS : l ≠ [] → ∀ x ∈ own v, x ∉ S) : Reads w' v l := by
  by_cases h0 : l = []
  · subst h0
    rcases h with h | ⟨h, _⟩
    · exact .inl h
    · simp at h
  · exact h.only ho (fun g hg => hS h0 g (own_of hg))

theorem Pairs.only' {w w' : World} {v : Value} {n : Nat} {A B : Nat → Value} {S : List Nat} (h : Pairs w v n A B) (ho : Only S w w') (hS : 0 < n → ∀ x ∈ own v, x ∉ S) : Pairs w' v n A B := by
  obtain ⟨a, cap, rfl, h1, h2, h0, h3⟩ := h
  refine ⟨a, cap, rfl, h1, h2, h0, fun i hi => ?_⟩
  obtain ⟨b, off, rfl, c0, c1⟩ := h3 i hi
  have hb : b ∉ S := hS (by omega) b (by simp [own, Value.ownBlock])
  exact ⟨b, off, rfl, (ho.cell (p := ⟨b, _, none⟩) (cell_lt c0) hb).trans c0, (ho.cell (p := ⟨b, _, none⟩) (cell_lt c1) hb).trans c1⟩

theorem PlanAt.only {w w' : World} {F : Nat → Prop} {v : Value} {p : PlanL} {S : List Nat} (h : PlanAt w F v p) (ho : Only S w w') (hS : ∀ x, F x → x ∉ S) : PlanAt w' F v p := by
  obtain ⟨N, h1, h2, h3, h4⟩ := h
  exact ⟨N, h1.only' ho (fun h0 x hx => hS x (h3 h0 x hx)), fun i hi => (h2 i hi).only' ho (fun h0 x hx => hS x (h4 i hi h0 x hx)), h3, h4⟩

theorem PlanAt.mono {w : World} {F G : Nat → Prop} {v : Value} {p : PlanL} (h : PlanAt w F v p) (hFG : ∀ x, F x → G x) : PlanAt w G v p := by
  obtain ⟨N, h1, h2, h3, h4⟩ := h
  exact ⟨N, h1, h2, fun h0 x hx => hFG x (h3 h0 x hx), fun i hi h0 x hx => hFG x (h4 i hi h0 x hx)⟩

theorem PlanAt.plan {w : World} {F : Nat → Prop} {v : Value} {p : PlanL} (h : PlanAt w F v p) : InPlan w v p := h.mono fun _ _ => trivial

theorem InPlan.same {w w' : World} {v : Value} {p : PlanL} (h : InPlan w v p) (ho : Only [] w w') : InPlan w' v p := PlanAt.only h ho (by simp)
theorem InPlan.drewN {w : World} {v : Value} {p : PlanL} (h : InPlan w v p) (n : Nat) : InPlan (w.drewN n) v p := h.same ((Only.refl [] w).drewN n)

/-- One task, as it is read. -/
theorem InPlan.task {w : World} {v : Value} {p : PlanL} (h : InPlan w v p) : ∃ a cap, v = .slice a p.length cap ∧ p.length ≤ cap ∧ cap ≤ maxLen ∧ ∀ i, i < p.length → ∃ b off u, a = some ⟨b, off, none⟩ ∧
    w.cell? ⟨b, off + i * 2, none⟩ = some (.int .i64 (wkOf p i)) ∧ w.cell? ⟨b, off + i * 2 + 1, none⟩ = some u ∧ Reads w u (ndOf p i) := by
  obtain ⟨N, ⟨a, cap, rfl, h1, h2, _, h3⟩, h4, _⟩ := h
  refine ⟨a, cap, rfl, h1, h2, fun i hi => ?_⟩
  obtain ⟨b, off, rfl, c0, c1⟩ := h3 i hi
  exact ⟨b, off, _, rfl, c0, c1, h4 i hi⟩

theorem InPlan.len {w : World} {a : Option Addr} {n cap : Nat} {p : PlanL} (h : InPlan w (.slice a n cap) p) : n = p.length := by
  obtain ⟨a', cap', e, _⟩ := h.task
  injection e

/-- One task of a plan whose slice's address is known. -/
theorem InPlan.at {w : World} {b off n cap : Nat} {p : PlanL} (h : InPlan w (.slice (some ⟨b, off, none⟩) n cap) p) (k : Nat) (hk : k < p.length) :
    ∃ ua uc, w.cell? ⟨b, off + k * 2, none⟩ = some (.int .i64 (wkOf p k)) ∧ w.cell? ⟨b, off + k * 2 + 1, none⟩ = some (.slice ua (ndOf p k).length uc) ∧ Reads w (.slice ua (ndOf p k).length uc) (ndOf p k) := by
  obtain ⟨a', cap', e, _, _, ht⟩ := h.task
  obtain ⟨b', o', u, e', c0, c1, hr⟩ := ht k hk
  injection e with e1 _ _
  subst e1
  injection e' with e'
  injection e' with e1 e2
  subst e1 e2
  obtain ⟨ua, uc, rfl, _⟩ := hr.opt
  exact ⟨ua, uc, c0, c1, hr⟩

/-- .. whose slice's address is not. -/
theorem InPlan.any {w : World} {a : Option Addr} {n cap : Nat} {p : PlanL} (h : InPlan w (.slice a n cap) p) (k : Nat) (hk : k < p.length) : ∃ b off, a = some ⟨b, off, none⟩ := by
  obtain ⟨a', cap', e, _, _, ht⟩ := h.task
  obtain ⟨b', o', u, e', _⟩ := ht k hk
  injection e with e1 _ _
  subst e1
  exact ⟨b', o', e'⟩

theorem Reads.len {w : World} {v : Value} {l : List Int} (h : Reads w v l) : l.length ≤ 9223372036854775807 := by
  rcases h with ⟨rfl, _⟩ | ⟨_, b, off, cap, rfl, h1, h2, _⟩
  · simp
  · unfold maxLen at h2; omega

theorem InPlan.needLen {w : World} {v : Value} {p : PlanL} (h : InPlan w v p) (k : Nat) : (ndOf p k).length ≤ 9223372036854775807 := by
  by_cases hk : k < p.length
  · obtain ⟨N, _, h2, _⟩ := h
    exact (h2 k hk).len
  · rw [ndOf_none p k (by omega)]; simp

/-- The numbers fit. -/
def FitsP (p : PlanL) : Prop := ∀ t ∈ p, (Lit.int .i64 t.1).wf = true ∧ ∀ k ∈ t.2, (Lit.int .i64 k).wf = true

/-- A plan that came in. -/
def ArgPlan (w : World) (v : Value) (p : PlanL) : Prop := FitsP p ∧ InPlan w v p

theorem FitsP.work {p : PlanL} (h : FitsP p) (i : Nat) : -9223372036854775808 ≤ wkOf p i ∧ wkOf p i ≤ 9223372036854775807 := by
  by_cases hi : i < p.length
  · have := (h (p[i]) (List.getElem_mem hi)).1
    have e : wkOf p i = p[i].1 := by unfold wkOf; rw [List.getElem?_eq_getElem hi]; rfl
    rw [e]; exact bounds_i64 this
  · have e : wkOf p i = 0 := by unfold wkOf; rw [List.getElem?_eq_none (by omega)]; rfl
    rw [e]; omega
theorem FitsP.need {p : PlanL} (h : FitsP p) (i : Nat) : ∀ k ∈ ndOf p i, -9223372036854775808 ≤ k ∧ k ≤ 9223372036854775807 := by
  by_cases hi : i < p.length
  · have := (h (p[i]) (List.getElem_mem hi)).2
    have e : ndOf p i = p[i].2 := by unfold ndOf; rw [List.getElem?_eq_getElem hi]; rfl
    rw [e]; exact fun k hk => bounds_i64 (this k hk)
  · rw [ndOf_none p i (by omega)]; simp

set_option maxRecDepth 100000 in
theorem open_plan {H : Type} {enc : TypeId × Value → H} {W : World} {base : Nat} {v : Value} {d : DataW H} {p : List MemPlace}
    (hv : Value.okWide Tryz.prog W .any base 24 v) (h : DataW.Trod enc Tryz.prog W 0 (fun _ => true) true 24 v d p) : ∃ l, ArgPlan W v l := by
  obtain ⟨n, A, B, hp, hAB⟩ := open_pairs Tryz.underlying24 Tryz.underlying97 (by kernel_rfl) rfl rfl (by kernel_rfl) (by kernel_rfl) hv h
  have key : ∀ i, i < n → ∃ x : Int × List Int, A i = .int .i64 x.1 ∧ (Lit.int .i64 x.1).wf = true ∧ InInts W (B i) x.2 := by
    intro i hi
    obtain ⟨k, x, y, hx, hy⟩ := hAB i hi
    obtain ⟨a, e0, _, wa⟩ := DataW.trod_int Tryz.underlying3 hx
    simp at e0
    have hB : ∃ l, InInts W (B i) l := by
      rcases open_ints Tryz.underlying32 Tryz.underlying3 (by kernel_rfl) hy with ⟨hcs, _⟩ | ⟨x, l, c, zs, hcs, _, hl, hm, hz, _, hcell, hwz⟩
      · have hcs' : B i = .slice none 0 0 := by simpa using hcs
        rw [hcs']
        exact ⟨_, inInts_of_row (.inl ⟨rfl, rfl, rfl, rfl⟩)⟩
      · have hcs' : B i = .slice (some x) l c := by simpa using hcs
        rw [hcs']
        exact ⟨_, inInts_of_row (.inr ⟨_, rfl, hl, hm, by simpa using hz, hcell, hwz⟩)⟩
    obtain ⟨l, hl⟩ := hB
    exact ⟨(a, l), e0, wa, hl⟩
  obtain ⟨q, hq⟩ := choose_lt key
  have hl : ((List.range n).map q).length = n := by simp
  have hw : ∀ i, i < n → wkOf ((List.range n).map q) i = (q i).1 := by intro i hi; simp [wkOf, hi]
  have hd : ∀ i, i < n → ndOf ((List.range n).map q) i = (q i).2 := by intro i hi; simp [ndOf, hi]
  refine ⟨(List.range n).map q, ?_, B, ?_, ?_, fun _ _ _ => trivial, fun _ _ _ _ _ => trivial⟩
  · intro t ht
    obtain ⟨i, hi, rfl⟩ := List.mem_map.1 ht
    have := hq i (List.mem_range.1 hi)
    exact ⟨this.2.1, this.2.2.1⟩
  · obtain ⟨a, cap, rfl, h1, h2, h0, h3⟩ := hp
    rw [hl]
    refine ⟨a, cap, rfl, h1, h2, h0, fun i hi => ?_⟩
    obtain ⟨b, off, ha, k0, k1⟩ := h3 i hi
    refine ⟨b, off, ha, ?_, k1⟩
    show _ = some (Value.int .i64 (wkOf ((List.range n).map q) i))
    rw [k0, (hq i hi).1, hw i hi]
  · intro i hi
    rw [hl] at hi
    rw [hd i hi]
    exact (hq i hi).2.2.reads

theorem sliceOf_plan : SliceOf 24 97 2 32 :=
  sliceOf_parts (z := .agg #[.int .i64 0, .slice none 0 0]) Tryz.underlying24 (by kernel_rfl) rfl (by decide) (by decide)

/-- The cells of a plan's tasks, all in a row. -/
def flatP (p : PlanL) (N : Nat → Value) (n : Nat) : List Value := (List.range (n * 2)).map fun j => if j % 2 = 0 then .int .i64 (wkOf p (j / 2)) else N (j / 2)
theorem flatP_len (p : PlanL) (N : Nat → Value) (n : Nat) : (flatP p N n).length = n * 2 := by simp [flatP]
theorem flatP_0 (p : PlanL) (N : Nat → Value) (n i : Nat) (h : i < n) : (flatP p N n)[i * 2]? = some (.int .i64 (wkOf p i)) := by
  unfold flatP
  rw [List.getElem?_map, List.getElem?_range (by omega)]
  simp
theorem flatP_1 (p : PlanL) (N : Nat → Value) (n i : Nat) (h : i < n) : (flatP p N n)[i * 2 + 1]? = some (N i) := by
  unfold flatP
  rw [List.getElem?_map, List.getElem?_range (by omega)]
  have e1 : (i * 2 + 1) / 2 = i := by omega
  have e2 : (i * 2 + 1) % 2 = 1 := by omega
  simp [e1, e2]

theorem wkOf_push_lt (p : PlanL) (t : Int × List Int) (i : Nat) (h : i < p.length) : wkOf (p ++ [t]) i = wkOf p i := by
  unfold wkOf; rw [List.getElem?_append_left h]
theorem wkOf_push_eq (p : PlanL) (t : Int × List Int) : wkOf (p ++ [t]) p.length = t.1 := by
  unfold wkOf; rw [List.getElem?_append_right (Nat.le_refl _)]; simp
theorem ndOf_push_lt (p : PlanL) (t : Int × List Int) (i : Nat) (h : i < p.length) : ndOf (p ++ [t]) i = ndOf p i := by
  unfold ndOf; rw [List.getElem?_append_left h]
theorem ndOf_push_eq (p : PlanL) (t : Int × List Int) : ndOf (p ++ [t]) p.length = t.2 := by
  unfold ndOf; rw [List.getElem?_append_right (Nat.le_refl _)]; simp

def updV (N : Nat → Value) (n : Nat) (u : Value) : Nat → Value := fun i => if i = n then u else N i

theorem flatP_push (p : PlanL) (N : Nat → Value) (t : Int × List Int) (u : Value) : flatP p N p.length ++ [.int .i64 t.1, u] = flatP (p ++ [t]) (updV N p.length u) (p ++ [t]).length := by
  apply List.ext_getElem?
  intro j
  have hl : (p ++ [t]).length = p.length + 1 := by simp
  rcases Nat.lt_or_ge j (p.length * 2) with hj | hj
  · rw [List.getElem?_append_left (by rw [flatP_len]; exact hj)]
    have hd : j / 2 < p.length := by omega
    rcases Nat.mod_two_eq_zero_or_one j with hm | hm
    · obtain ⟨i, rfl⟩ : ∃ i, j = i * 2 := ⟨j / 2, by omega⟩
      rw [flatP_0 _ _ _ _ (by omega), flatP_0 _ _ _ _ (by omega), wkOf_push_lt _ _ _ (by omega)]
    · obtain ⟨i, rfl⟩ : ∃ i, j = i * 2 + 1 := ⟨j / 2, by omega⟩
      rw [flatP_1 _ _ _ _ (by omega), flatP_1 _ _ _ _ (by omega)]
      unfold updV
      rw [if_neg (by omega)]
  · rw [List.getElem?_append_right (by rw [flatP_len]; exact hj), flatP_len]
    by_cases e0 : j = p.length * 2
    · subst e0
      rw [flatP_0 _ _ _ _ (by omega), wkOf_push_eq]
      simp
    · by_cases e1 : j = p.length * 2 + 1
      · subst e1
        rw [flatP_1 _ _ _ _ (by omega)]
        simp [updV]
      · rw [List.getElem?_eq_none (by simp; omega), List.getElem?_eq_none (by rw [flatP_len]; omega)]

/-- A plan that the call itself made: its row from 'base' on; F: what its tasks' needs are read from. -/
def OwnPlan (w : World) (base : Nat) (F : Nat → Prop) (v : Value) (p : PlanL) : Prop :=
  ∃ N : Nat → Value, w.ownsRow base 97 2 v p.length (flatP p N p.length) ∧ (∀ i, i < p.length → Reads w (N i) (ndOf p i)) ∧
    (∀ i, i < p.length → (N i).oneCell' = true) ∧ ∀ i, i < p.length → ndOf p i ≠ [] → ∀ x ∈ own (N i), F x ∧ x ∉ own v

theorem Reads.oneCell {w : World} {v : Value} {l : List Int} (h : Reads w v l) : v.oneCell' = true := by
  rcases h with ⟨_, rfl | ⟨x, c, rfl, _⟩⟩ | ⟨_, b, off, c, rfl, _⟩ <;> rfl

theorem OwnPlan.nil (w : World) (base : Nat) (F : Nat → Prop) : OwnPlan w base F (.slice none 0 0) [] :=
  ⟨fun _ => .nilIface, World.ownsRow_nil _ _ _ _, by simp, by simp, by simp⟩

theorem OwnPlan.only {w w' : World} {base : Nat} {F : Nat → Prop} {v : Value} {p : PlanL} {S : List Nat} (h : OwnPlan w base F v p) (ho : Only S w w') (h1 : ∀ x ∈ own v, x ∉ S) (h2 : ∀ x, F x → x ∉ S) : OwnPlan w' base F v p := by
  obtain ⟨N, k1, k2, k3, k4⟩ := h
  exact ⟨N, Row.only k1 ho h1, fun i hi => (k2 i hi).only' ho (fun h0 x hx => h2 x (k4 i hi h0 x hx).1), k3, k4⟩

theorem OwnPlan.same {w w' : World} {base : Nat} {F : Nat → Prop} {v : Value} {p : PlanL} (h : OwnPlan w base F v p) (ho : Only [] w w') : OwnPlan w' base F v p := h.only ho (by simp) (by simp)

theorem OwnPlan.far {w : World} {base : Nat} {F : Nat → Prop} {v : Value} {p : PlanL} (h : OwnPlan w base F v p) : ∀ x ∈ own v, base ≤ x ∧ x < w.heap.size := by
  obtain ⟨N, k1, _⟩ := h
  exact Row.far k1

theorem OwnPlan.form {w : World} {base : Nat} {F : Nat → Prop} {v : Value} {p : PlanL} (h : OwnPlan w base F v p) : ∃ a cap, v = .slice a p.length cap ∧ p.length ≤ cap ∧ cap ≤ maxLen := by
  obtain ⟨N, k1, _⟩ := h
  obtain ⟨a, cap, rfl, h1, h2, _⟩ := Row.form k1
  exact ⟨a, cap, rfl, h1, h2⟩

theorem OwnPlan.row {w : World} {base : Nat} {F : Nat → Prop} {v : Value} {p : PlanL} (h : OwnPlan w base F v p) : PlanAt w (fun x => F x ∨ (base ≤ x ∧ x < w.heap.size)) v p := by
  obtain ⟨N, k1, k2, k3, k4⟩ := h
  have hf := Row.far k1
  refine ⟨N, ?_, k2, fun _ x hx => .inr (hf x hx), fun i hi h0 x hx => .inl (k4 i hi h0 x hx).1⟩
  rcases k1.2 with ⟨rfl, hn⟩ | ⟨g, cap, cur, rfl, hb, hg, hc, hm, hs, ht⟩
  · exact ⟨none, 0, by rw [hn], by omega, by unfold maxLen; omega, fun _ => rfl, fun i hi => by omega⟩
  · refine ⟨_, cap, rfl, hc, hm, (fun h => by cases h), fun i hi => ⟨g, 0, rfl, ?_, ?_⟩⟩
    · rw [Nat.zero_add, World.ownsRow.cellAt k1 (i * 2) (by omega)]
      exact flatP_0 _ _ _ _ hi
    · rw [Nat.zero_add, World.ownsRow.cellAt k1 (i * 2 + 1) (by omega)]
      exact flatP_1 _ _ _ _ hi

theorem OwnPlan.plan {w : World} {base : Nat} {F : Nat → Prop} {v : Value} {p : PlanL} (h : OwnPlan w base F v p) : InPlan w v p := h.row.plan

/-- One task more, behind append. W: the world in which the plan was known, w' the one behind append. -/
theorem OwnPlan.push {W w' : World} {base : Nat} {F : Nat → Prop} {v v' : Value} {p : PlanL} {N : Nat → Value} (t : Int × List Int) (u : Value)
    (k2 : ∀ i, i < p.length → Reads W (N i) (ndOf p i)) (k3 : ∀ i, i < p.length → (N i).oneCell' = true) (k4 : ∀ i, i < p.length → ndOf p i ≠ [] → ∀ x ∈ own (N i), F x ∧ x ∉ own v)
    (hu : Reads W u t.2) (hF : t.2 ≠ [] → ∀ x ∈ own u, F x ∧ x ∉ own v)
    (hown : w'.ownsRow base 97 2 v' (p.length + 1) (flatP p N p.length ++ [.int .i64 t.1, u])) (ho : Only (own v) W w') (hk : Kin W (own v) (own v')) : OwnPlan w' base F v' (p ++ [t]) := by
  have hl : (p ++ [t]).length = p.length + 1 := by simp
  have hlt : ∀ {x : Nat} {y : Value} {l : List Int}, Reads W y l → l ≠ [] → x ∈ own y → x < W.heap.size := by
    intro x y l hy h0 hx
    rcases hy with ⟨h, _⟩ | ⟨_, b, off, cap, rfl, _, _, hc⟩
    · exact absurd h h0
    · obtain rfl : x = b := by simpa [own, Value.ownBlock] using hx
      exact cell_lt (hc 0 (List.length_pos_iff.2 h0))
  have hap : ∀ {y : Value} {l : List Int}, Reads W y l → l ≠ [] → (∀ x ∈ own y, F x ∧ x ∉ own v) → ∀ x ∈ own y, F x ∧ x ∉ own v' := by
    intro y l hy h0 h x hx
    refine ⟨(h x hx).1, fun hx' => ?_⟩
    rcases hk x hx' with h1 | h1
    · exact (h x hx).2 h1
    · have := hlt hy h0 hx; omega
  refine ⟨updV N p.length u, ?_, fun i hi => ?_, fun i hi => ?_, fun i hi h0 => ?_⟩
  · rw [← flatP_push, hl]; exact hown
  · rcases Nat.lt_or_ge i p.length with h | h
    · rw [show updV N p.length u i = N i by unfold updV; rw [if_neg (by omega)], ndOf_push_lt _ _ _ h]
      exact (k2 i h).only' ho (fun h0 x hx => (k4 i h h0 x hx).2)
    · obtain rfl : i = p.length := by omega
      rw [show updV N p.length u p.length = u by simp [updV], ndOf_push_eq]
      exact hu.only' ho (fun h0 x hx => (hF h0 x hx).2)
  · rcases Nat.lt_or_ge i p.length with h | h
    · rw [show updV N p.length u i = N i by unfold updV; rw [if_neg (by omega)]]; exact k3 i h
    · obtain rfl : i = p.length := by omega
      rw [show updV N p.length u p.length = u by simp [updV]]; exact hu.oneCell
  · rcases Nat.lt_or_ge i p.length with h | h
    · rw [show updV N p.length u i = N i by unfold updV; rw [if_neg (by omega)]]
      rw [ndOf_push_lt _ _ _ h] at h0
      exact hap (k2 i h) h0 (k4 i h h0)
    · obtain rfl : i = p.length := by omega
      rw [show updV N p.length u p.length = u by simp [updV]]
      rw [ndOf_push_eq] at h0
      exact hap hu h0 (hF h0)

end Go.Proofs.YtocpmncedlenbaaGreatDoor
