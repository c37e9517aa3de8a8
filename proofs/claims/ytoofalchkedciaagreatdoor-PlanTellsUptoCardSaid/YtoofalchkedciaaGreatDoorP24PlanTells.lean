/-
  How long a plan takes, in plain words: work, tails, ranks, span, the longest way. No program is named here.
-/
import Derived.Test.YtoofalchkedciaaGreatDoorP7PlanTells
namespace Go.Proofs.YtoofalchkedciaaGreatDoor

/-- The greatest of some numbers, and 0. -/
def maxL (l : List Int) : Int := l.foldl max 0

theorem foldl_max (l : List Int) (a : Int) : l.foldl max a = max a (l.foldl max 0) ∨ a < 0 := by
  by_cases h : a < 0
  · exact .inr h
  · left
    induction l generalizing a with
    | nil => simp; omega
    | cons x l ih =>
      simp only [List.foldl_cons]
      rw [ih (max a x) (by omega), ih (max 0 x) (by omega)]
      omega
theorem maxL_nil : maxL [] = 0 := rfl
theorem maxL_snoc (l : List Int) (x : Int) : maxL (l ++ [x]) = max (maxL l) x := by simp [maxL]
theorem maxL_cons (a : Int) (l : List Int) : maxL (a :: l) = max (max 0 a) (maxL l) := by
  unfold maxL
  simp only [List.foldl_cons]
  rcases foldl_max l (max 0 a) with h | h
  · exact h
  · omega
theorem maxL_ge (l : List Int) : 0 ≤ maxL l := by
  induction l with
  | nil => simp [maxL]
  | cons a l ih => rw [maxL_cons]; omega
theorem maxL_mem {l : List Int} {x : Int} (h : x ∈ l) : x ≤ maxL l := by
  induction l with
  | nil => cases h
  | cons a l ih =>
    rw [maxL_cons]
    rcases List.mem_cons.1 h with rfl | h
    · omega
    · have := ih h; omega
theorem maxL_le {l : List Int} {b : Int} (hb : 0 ≤ b) (h : ∀ x ∈ l, x ≤ b) : maxL l ≤ b := by
  induction l with
  | nil => simpa [maxL] using hb
  | cons a l ih =>
    rw [maxL_cons]
    have := h a (by simp)
    have := ih (fun x hx => h x (by simp [hx]))
    omega
theorem maxL_in (l : List Int) : maxL l = 0 ∨ maxL l ∈ l := by
  induction l with
  | nil => exact .inl rfl
  | cons a l ih =>
    rw [maxL_cons]
    have h0 := maxL_ge l
    by_cases h : maxL l ≤ a
    · right
      rw [show max (max 0 a) (maxL l) = a by omega]; simp
    · rw [show max (max 0 a) (maxL l) = maxL l by omega]
      rcases ih with e | e
      · exact .inl e
      · exact .inr (by simp [e])
theorem maxL_congr {l : List Nat} {f g : Nat → Int} (h : ∀ x ∈ l, f x = g x) : maxL (l.map f) = maxL (l.map g) := by
  rw [List.map_congr_left h]

/-- The sum of f 0, .., f (k - 1). -/
def sumI (f : Nat → Int) : Nat → Int
  | 0 => 0
  | k + 1 => sumI f k + f k

theorem sumI_le (f : Nat → Int) (c : Int) (k : Nat) (h : ∀ i, i < k → f i ≤ c) : sumI f k ≤ c * k := by
  induction k with
  | zero => simp [sumI]
  | succ k ih =>
    have := ih (fun i hi => h i (by omega))
    have := h k (by omega)
    simp only [sumI]
    have e : c * ((k + 1 : Nat) : Int) = c * k + c := by rw [Int.natCast_add, Int.mul_add]; simp
    omega
theorem sumI_ge (f : Nat → Int) (c : Int) (k : Nat) (h : ∀ i, i < k → c ≤ f i) : c * k ≤ sumI f k := by
  induction k with
  | zero => simp [sumI]
  | succ k ih =>
    have := ih (fun i hi => h i (by omega))
    have := h k (by omega)
    simp only [sumI]
    have e : c * ((k + 1 : Nat) : Int) = c * k + c := by rw [Int.natCast_add, Int.mul_add]; simp
    omega
theorem sumI_congr {f g : Nat → Int} (k : Nat) (h : ∀ i, i < k → f i = g i) : sumI f k = sumI g k := by
  induction k with
  | zero => rfl
  | succ k ih => simp only [sumI]; rw [ih (fun i hi => h i (by omega)), h k (by omega)]
theorem sumI_add (f g : Nat → Int) (k : Nat) : sumI (fun i => f i + g i) k = sumI f k + sumI g k := by
  induction k with
  | zero => rfl
  | succ k ih => simp only [sumI]; rw [ih]; omega
theorem sumI_mono {f g : Nat → Int} (k : Nat) (h : ∀ i, i < k → f i ≤ g i) : sumI f k ≤ sumI g k := by
  induction k with
  | zero => exact Int.le_refl _
  | succ k ih =>
    have := ih (fun i hi => h i (by omega))
    have := h k (by omega)
    simp only [sumI]; omega
theorem sumI_nonneg {f : Nat → Int} (k : Nat) (h : ∀ i, i < k → 0 ≤ f i) : 0 ≤ sumI f k := by
  have := sumI_ge f 0 k h; omega
theorem sumI_grow {f : Nat → Int} (k m : Nat) (hk : k ≤ m) (h : ∀ i, i < m → 0 ≤ f i) : sumI f k ≤ sumI f m := by
  induction m with
  | zero => obtain rfl : k = 0 := by omega
            exact Int.le_refl _
  | succ m ih =>
    by_cases e : k = m + 1
    · subst e; exact Int.le_refl _
    · have := ih (by omega) (fun i hi => h i (by omega))
      have := h m (by omega)
      simp only [sumI]; omega

/-- All work. -/
def workF (p : PlanL) : Int := sumI (wkOf p) p.length
theorem workK_bd {p : PlanL} (h : PlanOk p) (k : Nat) (hk : k ≤ p.length) : (k : Int) ≤ sumI (wkOf p) k ∧ sumI (wkOf p) k ≤ 600 := by
  have h1 := sumI_le (wkOf p) 20 k (fun i hi => (h.work i (by omega)).2)
  have h2 := sumI_ge (wkOf p) 1 k (fun i hi => (h.work i (by omega)).1)
  have := h.len
  omega

theorem mem_after {p : PlanL} {i : Int} {k : Nat} : k ∈ afterOf p i ↔ k < p.length ∧ i ∈ ndOf p k := by
  simp [afterOf]

/-- Tails, so many steps deep. -/
def tailN (p : PlanL) : Nat → Nat → Int
  | 0, _ => 0
  | f + 1, i => wkOf p i + maxL ((afterOf p i).map (tailN p f))
/-- The longest way from a task to an end. -/
def tailF (p : PlanL) (i : Nat) : Int := tailN p p.length i

/- How many hang on i. -/
open Classical in
noncomputable def hk (p : PlanL) (i : Nat) : Nat := (List.range p.length).countP (fun j => decide (Reach p j i))
theorem hk_lt {p : PlanL} (h : PlanOk p) {i k : Nat} (hk' : k < p.length) (hi : (i : Int) ∈ ndOf p k) : hk p k < hk p i := by
  unfold hk
  refine countP_lt _ _ _ (fun x _ hx => ?_) ⟨k, by simpa using hk', ?_, ?_⟩
  · simp at hx ⊢
    exact .more hx hi
  · simpa using Reach.one hi
  · simpa using h.acyc k hk'
theorem countP_below {α : Type} (P : α → Bool) (l : List α) (x : α) (hx : x ∈ l) (h : P x = false) : l.countP P < l.length := by
  have h1 := countP_lt P (fun _ => true) l (fun _ _ _ => rfl) ⟨x, hx, rfl, h⟩
  have h2 := List.countP_le_length (p := fun _ : α => true) (l := l)
  omega
open Classical in
theorem hk_n {p : PlanL} (h : PlanOk p) {i : Nat} (hi : i < p.length) : hk p i < p.length := by
  unfold hk
  have := countP_below (fun j => decide (Reach p j i)) (List.range p.length) i (by simpa using hi) (by simpa using h.acyc i hi)
  simpa using this
open Classical in
theorem rk_n {p : PlanL} (h : PlanOk p) {i : Nat} (hi : i < p.length) : rk p i < p.length := by
  unfold rk
  have := countP_below (fun j => decide (Reach p i j)) (List.range p.length) i (by simpa using hi) (by simpa using h.acyc i hi)
  simpa using this

theorem tailN_stable {p : PlanL} (h : PlanOk p) (f g : Nat) (i : Nat) (hf : hk p i < f) (hg : hk p i < g) : tailN p f i = tailN p g i := by
  induction f generalizing g i with
  | zero => omega
  | succ f ih =>
    cases g with
    | zero => omega
    | succ g =>
      simp only [tailN]
      congr 1
      refine maxL_congr fun k hkm => ?_
      obtain ⟨h1, h2⟩ := mem_after.1 hkm
      have := hk_lt h h1 h2
      exact ih g k (by omega) (by omega)

theorem tailF_eq {p : PlanL} (h : PlanOk p) {i : Nat} (hi : i < p.length) : tailF p i = wkOf p i + maxL ((afterOf p i).map (tailF p)) := by
  unfold tailF
  have h1 := hk_n h hi
  obtain ⟨n, hn⟩ : ∃ n, p.length = n := ⟨_, rfl⟩
  rw [hn] at h1 ⊢
  cases n with
  | zero => omega
  | succ n =>
    show wkOf p i + maxL ((afterOf p i).map (tailN p n)) = _
    congr 1
    refine maxL_congr fun k hkm => ?_
    obtain ⟨h2, h3⟩ := mem_after.1 hkm
    have := hk_lt h h2 h3
    exact tailN_stable h _ _ k (by omega) (by omega)

theorem tailN_le {p : PlanL} (h : PlanOk p) (f i : Nat) (hi : i < p.length) : 0 ≤ tailN p f i ∧ tailN p f i ≤ 20 * f := by
  induction f generalizing i with
  | zero => simp [tailN]
  | succ f ih =>
    have hw := h.work i hi
    have h0 := maxL_ge ((afterOf p i).map (tailN p f))
    have h1 : maxL ((afterOf p i).map (tailN p f)) ≤ 20 * f := maxL_le (by omega) (fun x hx => by
      obtain ⟨k, hk, rfl⟩ := List.mem_map.1 hx
      exact (ih k (mem_after.1 hk).1).2)
    simp only [tailN]
    omega
theorem tailF_le {p : PlanL} (h : PlanOk p) {i : Nat} (hi : i < p.length) : wkOf p i ≤ tailF p i ∧ tailF p i ≤ 600 := by
  have h1 := (tailN_le h p.length i hi).2
  have h2 := h.len
  refine ⟨?_, by unfold tailF; omega⟩
  rw [tailF_eq h hi]
  have := maxL_ge ((afterOf p i).map (tailF p))
  omega
theorem tailF_need {p : PlanL} (h : PlanOk p) {i k : Nat} (hi : i < p.length) (hk : (k : Int) ∈ ndOf p i) : tailF p i + wkOf p k ≤ tailF p k := by
  have hkn := h.need i k hk
  rw [tailF_eq h (i := k) (by omega)]
  have := maxL_mem (List.mem_map_of_mem (f := tailF p) (mem_after.2 ⟨hi, hk⟩))
  omega

/-- How long a plan takes at least. -/
def spanF (p : PlanL) : Int := maxL ((List.range p.length).map (tailF p))
theorem spanF_ge {p : PlanL} {i : Nat} (hi : i < p.length) : tailF p i ≤ spanF p :=
  maxL_mem (List.mem_map_of_mem (f := tailF p) (by simpa using hi))
theorem spanF_bd {p : PlanL} (h : PlanOk p) : 0 ≤ spanF p ∧ spanF p ≤ 600 :=
  ⟨maxL_ge _, maxL_le (by omega) (fun x hx => by
    obtain ⟨k, hk, rfl⟩ := List.mem_map.1 hx
    exact (tailF_le h (by simpa using hk)).2)⟩

/-- Ranks, so many steps deep. -/
def rankN (p : PlanL) : Nat → Nat → Int
  | 0, _ => 0
  | f + 1, i => maxL ((ndOf p i).map fun k => rankN p f k.toNat + wkOf p k.toNat)
/-- The least step at which a task could begin. -/
def rankF (p : PlanL) (i : Nat) : Int := rankN p p.length i

theorem need_nat {p : PlanL} (h : PlanOk p) {i : Nat} {k : Int} (hk : k ∈ ndOf p i) : k.toNat < p.length ∧ ((k.toNat : Nat) : Int) = k := by
  have := h.need i k hk
  omega

theorem rankN_stable {p : PlanL} (h : PlanOk p) (f g : Nat) (i : Nat) (hf : rk p i < f) (hg : rk p i < g) : rankN p f i = rankN p g i := by
  induction f generalizing g i with
  | zero => omega
  | succ f ih =>
    cases g with
    | zero => omega
    | succ g =>
      simp only [rankN]
      congr 1
      refine List.map_congr_left fun k hkm => ?_
      have hn := need_nat h hkm
      have := rk_lt h (i := i) (k := k.toNat) (by rw [hn.2]; exact hkm)
      rw [ih g k.toNat (by omega) (by omega)]
theorem rankF_eq {p : PlanL} (h : PlanOk p) {i : Nat} (hi : i < p.length) : rankF p i = maxL ((ndOf p i).map fun k => rankF p k.toNat + wkOf p k.toNat) := by
  unfold rankF
  have h1 := rk_n h hi
  obtain ⟨n, hn⟩ : ∃ n, p.length = n := ⟨_, rfl⟩
  rw [hn] at h1 ⊢
  cases n with
  | zero => omega
  | succ n =>
    show maxL ((ndOf p i).map fun k => rankN p n k.toNat + wkOf p k.toNat) = _
    congr 1
    refine List.map_congr_left fun k hkm => ?_
    have hn := need_nat h hkm
    have := rk_lt h (i := i) (k := k.toNat) (by rw [hn.2]; exact hkm)
    rw [rankN_stable h n (n + 1) k.toNat (by omega) (by omega)]
theorem rankN_le {p : PlanL} (h : PlanOk p) (f i : Nat) : 0 ≤ rankN p f i ∧ rankN p f i ≤ 20 * f := by
  induction f generalizing i with
  | zero => simp [rankN]
  | succ f ih =>
    simp only [rankN]
    refine ⟨maxL_ge _, maxL_le (by omega) (fun x hx => ?_)⟩
    obtain ⟨k, hk, rfl⟩ := List.mem_map.1 hx
    have := (ih k.toNat).2
    have := (h.work k.toNat (need_nat h hk).1).2
    show rankN p f k.toNat + wkOf p k.toNat ≤ _
    omega
theorem rankF_bd {p : PlanL} (h : PlanOk p) (i : Nat) : 0 ≤ rankF p i ∧ rankF p i ≤ 600 := by
  have := rankN_le h p.length i
  have := h.len
  unfold rankF
  omega
theorem rankF_need {p : PlanL} (h : PlanOk p) {i k : Nat} (hi : i < p.length) (hk : (k : Int) ∈ ndOf p i) : rankF p k + wkOf p k ≤ rankF p i := by
  rw [rankF_eq h hi]
  have := maxL_mem (List.mem_map_of_mem (f := fun k : Int => rankF p k.toNat + wkOf p k.toNat) hk)
  simpa using this
/-- No task's rank and tail together are more than the span. -/
theorem rank_tail {p : PlanL} (h : PlanOk p) {i : Nat} (hi : i < p.length) : rankF p i + tailF p i ≤ spanF p := by
  obtain ⟨r, hr⟩ : ∃ r, rk p i = r := ⟨_, rfl⟩
  induction r using Nat.strongRecOn generalizing i with
  | ind r ih =>
    rcases maxL_in ((ndOf p i).map fun k => rankF p k.toNat + wkOf p k.toNat) with e | e
    · rw [rankF_eq h hi, e]
      have := spanF_ge hi
      omega
    · rw [← rankF_eq h hi] at e
      obtain ⟨k, hk, hke⟩ := List.mem_map.1 e
      have hn := need_nat h hk
      have hk' : ((k.toNat : Nat) : Int) ∈ ndOf p i := by rw [hn.2]; exact hk
      have h1 := ih _ (by rw [← hr]; exact rk_lt h hk') hn.1 rfl
      have h2 := tailF_need h hi hk'
      have hke' : rankF p k.toNat + wkOf p k.toNat = rankF p i := hke
      omega

/-- A longest way: of those that can come the first with the longest tail, and so on. -/
def wayF (p : PlanL) : Nat → List Nat → List Nat
  | 0, _ => []
  | f + 1, can => match can.find? (fun k => decide (0 < maxL (can.map (tailF p)) ∧ tailF p k = maxL (can.map (tailF p)))) with
    | some i => i :: wayF p f (afterOf p i)
    | none => []
def wayOf (p : PlanL) : List Nat := wayF p 600 (List.range p.length)

theorem wayF_len (p : PlanL) (f : Nat) (can : List Nat) : (wayF p f can).length ≤ f := by
  induction f generalizing can with
  | zero => simp [wayF]
  | succ f ih =>
    unfold wayF
    split
    · simp; exact ih _
    · simp
theorem wayF_none (p : PlanL) (f : Nat) (can : List Nat) (h : maxL (can.map (tailF p)) = 0) : wayF p f can = [] := by
  cases f with
  | zero => rfl
  | succ f =>
    unfold wayF
    have : can.find? (fun k => decide (0 < maxL (can.map (tailF p)) ∧ tailF p k = maxL (can.map (tailF p)))) = none := by
      rw [List.find?_eq_none]; intro x _; rw [h]; simp
    rw [this]
theorem find_of {α : Type} (P : α → Bool) (l : List α) (k : Nat) (hk : k < l.length) (hp : P l[k] = true) (hn : ∀ j (hj : j < k), P (l[j]'(by omega)) = false) : l.find? P = some l[k] := by
  rw [List.find?_eq_some_iff_getElem]
  exact ⟨hp, k, hk, rfl, fun j hj => by simp [hn j hj]⟩
theorem wayF_some (p : PlanL) (f : Nat) (can : List Nat) (k : Nat) (hk : k < can.length) (h0 : 0 < maxL (can.map (tailF p))) (hp : tailF p can[k] = maxL (can.map (tailF p))) (hn : ∀ j (hj : j < k), tailF p (can[j]'(by omega)) ≠ maxL (can.map (tailF p))) :
    wayF p (f + 1) can = can[k] :: wayF p f (afterOf p can[k]) := by
  have e : can.find? (fun k => decide (0 < maxL (can.map (tailF p)) ∧ tailF p k = maxL (can.map (tailF p)))) = some can[k] :=
    find_of _ _ k hk (by simp [h0, hp]) (fun j hj => by simp [hn j hj])
  rw [wayF, e]
theorem find_max {p : PlanL} (can : List Nat) (h0 : 0 < maxL (can.map (tailF p))) : ∃ k, ∃ hk : k < can.length, tailF p can[k] = maxL (can.map (tailF p)) ∧ ∀ j (hj : j < k), tailF p (can[j]'(by omega)) ≠ maxL (can.map (tailF p)) := by
  rcases maxL_in (can.map (tailF p)) with e | e
  · omega
  · obtain ⟨i, hi, hie⟩ := List.mem_map.1 e
    have : ∃ i, can.find? (fun k => decide (tailF p k = maxL (can.map (tailF p)))) = some i := by
      cases hf : can.find? (fun k => decide (tailF p k = maxL (can.map (tailF p)))) with
      | some i => exact ⟨i, rfl⟩
      | none => have := (List.find?_eq_none.1 hf) i hi; simp [hie] at this
    obtain ⟨i, hf⟩ := this
    rw [List.find?_eq_some_iff_getElem] at hf
    obtain ⟨h1, k, hk, rfl, h3⟩ := hf
    exact ⟨k, hk, by simpa using h1, fun j hj => by simpa using h3 j hj⟩

/-- A way: each needs the one ahead. -/
def WayOk (p : PlanL) : List Nat → Prop
  | [] => True
  | [i] => i < p.length
  | i :: k :: l => i < p.length ∧ (i : Int) ∈ ndOf p k ∧ WayOk p (k :: l)

/-- What such a way is, and its work. -/
theorem wayF_ok {p : PlanL} (h : PlanOk p) (f : Nat) (can : List Nat) (hc : ∀ i ∈ can, i < p.length) (hf : maxL (can.map (tailF p)) ≤ f) :
    WayOk p (wayF p f can) ∧ ((wayF p f can).map (wkOf p)).sum = maxL (can.map (tailF p)) ∧ (∀ i ∈ (wayF p f can).head?, i ∈ can) := by
  induction f generalizing can with
  | zero =>
    have := maxL_ge (can.map (tailF p))
    simp [wayF, WayOk]; omega
  | succ f ih =>
    by_cases h0 : maxL (can.map (tailF p)) = 0
    · rw [wayF_none p _ _ h0, h0]; simp [WayOk]
    · have h1 := maxL_ge (can.map (tailF p))
      obtain ⟨k, hk, e1, e2⟩ := find_max (p := p) can (by omega)
      rw [wayF_some p f can k hk (by omega) e1 e2]
      have hi := hc can[k] (List.getElem_mem hk)
      have ht := tailF_eq h hi
      have hw := h.work _ hi
      obtain ⟨a1, a2, a3⟩ := ih (afterOf p can[k]) (fun i hi => (mem_after.1 hi).1) (by omega)
      refine ⟨?_, ?_, ?_⟩
      · cases hl : wayF p f (afterOf p can[k]) with
        | nil => exact hi
        | cons m l =>
          rw [hl] at a1 a3
          exact ⟨hi, (mem_after.1 (a3 m (by simp))).2, a1⟩
      · simp only [List.map_cons, List.sum_cons]
        rw [a2]; omega
      · intro i hi; simp at hi; subst hi; exact List.getElem_mem hk

theorem wayOk_nth {p : PlanL} {l : List Nat} (h : WayOk p l) : (∀ k (hk : k < l.length), l[k] < p.length) ∧ (∀ k (hk : k + 1 < l.length), ((l[k] : Nat) : Int) ∈ ndOf p l[k + 1]) := by
  induction l with
  | nil => simp
  | cons i l ih =>
    cases l with
    | nil =>
      refine ⟨fun k hk => ?_, fun k hk => by simp at hk⟩
      obtain rfl : k = 0 := by simpa using hk
      exact h
    | cons m l =>
      obtain ⟨h1, h2, h3⟩ := h
      obtain ⟨b1, b2⟩ := ih h3
      refine ⟨fun k hk => ?_, fun k hk => ?_⟩
      · cases k with
        | zero => exact h1
        | succ k => exact b1 k (by simpa using hk)
      · cases k with
        | zero => exact h2
        | succ k => exact b2 k (by simpa using hk)

/-- One number of a row of numbers is another. -/
def setI (f : Nat → Int) (i : Nat) (x : Int) : Nat → Int := fun j => if j = i then x else f j

/-- The tails, when task x is reckoned. -/
def stepT (p : PlanL) (f : Nat → Int) (x : Nat) : Nat → Int := setI f x (max (f x) (maxL ((afterOf p x).map f)) + wkOf p x)
def foldT (p : PlanL) (l : List Nat) : Nat → Int := l.foldl (stepT p) (fun _ => 0)
theorem foldT_snoc (p : PlanL) (l : List Nat) (x : Nat) : foldT p (l ++ [x]) = stepT p (foldT p l) x := by simp [foldT]

theorem foldT_bd {p : PlanL} (h : PlanOk p) (l : List Nat) (hl : ∀ x ∈ l, x < p.length) (j : Nat) : 0 ≤ foldT p l j ∧ foldT p l j ≤ 20 * l.length := by
  obtain ⟨r, hr⟩ : ∃ r, r = l.reverse := ⟨_, rfl⟩
  obtain rfl : l = r.reverse := by rw [hr]; simp
  clear hr
  induction r generalizing j with
  | nil => simp [foldT]
  | cons x r ih =>
    rw [List.reverse_cons, foldT_snoc]
    have ih' := fun j => ih j (fun y hy => hl y (by simp at hy ⊢; exact .inl hy))
    have hx := h.work x (hl x (by simp))
    have h1 : maxL ((afterOf p x).map (foldT p r.reverse)) ≤ 20 * r.reverse.length := maxL_le (by omega) (fun y hy => by
      obtain ⟨k, _, rfl⟩ := List.mem_map.1 hy
      exact (ih' k).2)
    have h0 := ih' x
    have h2 := ih' j
    simp only [stepT, setI, List.length_append, List.length_singleton]
    split <;> omega

theorem foldT_rev {p : PlanL} (h : PlanOk p) (k : Nat) (hk : k ≤ p.length) (j : Nat) : foldT p ((orderOf p).reverse.take k) j = if j ∈ (orderOf p).reverse.take k then tailF p j else 0 := by
  have hl : (orderOf p).length = p.length := topo_len h p.length (Nat.le_refl _)
  have hnd : (orderOf p).Nodup := topo_nodup h p.length (Nat.le_refl _)
  induction k generalizing j with
  | zero => simp [foldT]
  | succ k ih =>
    have hk' : k < (orderOf p).reverse.length := by simp; omega
    obtain ⟨x, hx⟩ : ∃ x, (orderOf p).reverse[k] = x := ⟨_, rfl⟩
    have htk : (orderOf p).reverse.take (k + 1) = (orderOf p).reverse.take k ++ [x] := by rw [List.take_succ_eq_append_getElem hk', hx]
    have hxn : x < p.length := (orderOf_mem h x).1 (by rw [← hx]; simp)
    have hrnd : ((orderOf p).reverse.take (k + 1)).Nodup := List.Nodup.sublist (List.take_sublist _ _) (List.pairwise_reverse.2 (hnd.imp Ne.symm))
    rw [htk] at hrnd ⊢
    have hxk : x ∉ (orderOf p).reverse.take k := fun hm => by
      rw [List.nodup_append] at hrnd
      exact hrnd.2.2 x hm x (by simp) rfl
    have haft : ∀ m ∈ afterOf p x, m ∈ (orderOf p).reverse.take k := by
      intro m hm
      obtain ⟨hmn, hmx⟩ := mem_after.1 hm
      obtain ⟨a, ha, hae⟩ := List.getElem_of_mem ((orderOf_mem h m).2 hmn)
      have hr := (orderOf_ready h a m (by rw [List.getElem?_eq_getElem ha, hae])).2
      simp only [readyB, Bool.and_eq_true, List.all_eq_true] at hr
      have h1 := hr.2 _ hmx
      have h1' : x ∈ (orderOf p).take a := by simpa using h1
      obtain ⟨b, hb, hbe⟩ := List.getElem_of_mem h1'
      rw [List.getElem_take] at hbe
      have hb' : b < a := by simp at hb; omega
      have hxb : (orderOf p)[p.length - 1 - k]'(by omega) = x := by
        rw [← hx, List.getElem_reverse]; congr 1; omega
      have heq : b = p.length - 1 - k := by
        rcases Nat.lt_trichotomy b (p.length - 1 - k) with hlt | heq | hlt
        · exact absurd (hbe.trans hxb.symm) ((List.pairwise_iff_getElem.1 hnd) b _ (by omega) (by omega) hlt)
        · exact heq
        · exact absurd (hxb.trans hbe.symm) ((List.pairwise_iff_getElem.1 hnd) _ b (by omega) (by omega) hlt)
      rw [List.mem_take_iff_getElem]
      refine ⟨p.length - 1 - a, by simp; omega, ?_⟩
      rw [List.getElem_reverse, ← hae]
      congr 1; omega
    rw [foldT_snoc]
    simp only [stepT, setI]
    by_cases e : j = x
    · subst e
      rw [if_pos rfl, if_pos (by simp), ih (by omega) j, if_neg hxk, tailF_eq h hxn]
      have : maxL ((afterOf p j).map (foldT p ((orderOf p).reverse.take k))) = maxL ((afterOf p j).map (tailF p)) :=
        maxL_congr fun m hm => by rw [ih (by omega) m, if_pos (haft m hm)]
      rw [this]
      have := maxL_ge ((afterOf p j).map (tailF p))
      omega
    · rw [if_neg e, ih (by omega) j]
      simp [e]
theorem foldT_all {p : PlanL} (h : PlanOk p) (j : Nat) (hj : j < p.length) : foldT p (orderOf p).reverse j = tailF p j := by
  have hl : (orderOf p).length = p.length := topo_len h p.length (Nat.le_refl _)
  have := foldT_rev h p.length (Nat.le_refl _) j
  rw [List.take_of_length_le (by simp; omega), if_pos (by simpa using (orderOf_mem h j).2 hj)] at this
  exact this

end Go.Proofs.YtoofalchkedciaaGreatDoor
