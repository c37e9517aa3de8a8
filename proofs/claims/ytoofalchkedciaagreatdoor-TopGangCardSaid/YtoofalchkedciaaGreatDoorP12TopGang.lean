/-
  How long a plan takes, in plain words: work, tails, ranks, span, the longest way. No program is named here.
  A gang ends: in so many rounds as there is work, and tasks, all are done. No program is named here.
-/
import Derived.Test.YtoofalchkedciaaGreatDoorP6TopGang
import Derived.Test.YtoofalchkedciaaGreatDoorP11TopGang
namespace Go.Proofs.YtoofalchkedciaaGreatDoor

/-- The greatest of some numbers, and 0. -/
def maxL (l : List Int) : Int := l.foldl max 0

theorem foldl_max (l : List Int) (a : Int) : l.foldl max a = max a (l.foldl max 0) ∨ a < 0 := by
  by_cases h : a < 0
  · exact .inr h
  · left
    induction l generalizing a with
    | nil => simp; omega
    | cons x l ih =>
      simp only [List.foldl_cons]
      rw [ih (max a x) (by omega), ih (max 0 x) (by omega)]
      omega
theorem maxL_nil : maxL [] = 0 := rfl
theorem maxL_snoc (l : List Int) (x : Int) : maxL (l ++ [x]) = max (maxL l) x := by simp [maxL]
theorem maxL_cons (a : Int) (l : List Int) : maxL (a :: l) = max (max 0 a) (maxL l) := by
  unfold maxL
  simp only [List.foldl_cons]
  rcases foldl_max l (max 0 a) with h | h
  · exact h
  · omega
theorem maxL_ge (l : List Int) : 0 ≤ maxL l := by
  induction l with
  | nil => simp [maxL]
  | cons a l ih => rw [maxL_cons]; omega
theorem maxL_mem {l : List Int} {x : Int} (h : x ∈ l) : x ≤ maxL l := by
  induction l with
  | nil => cases h
  | cons a l ih =>
    rw [maxL_cons]
    rcases List.mem_cons.1 h with rfl | h
    · omega
    · have := ih h; omega
theorem maxL_le {l : List Int} {b : Int} (hb : 0 ≤ b) (h : ∀ x ∈ l, x ≤ b) : maxL l ≤ b := by
  induction l with
  | nil => simpa [maxL] using hb
  | cons a l ih =>
    rw [maxL_cons]
    have := h a (by simp)
    have := ih (fun x hx => h x (by simp [hx]))
    omega
theorem maxL_in (l : List Int) : maxL l = 0 ∨ maxL l ∈ l := by
  induction l with
  | nil => exact .inl rfl
  | cons a l ih =>
    rw [maxL_cons]
    have h0 := maxL_ge l
    by_cases h : maxL l ≤ a
    · right
      rw [show max (max 0 a) (maxL l) = a by omega]; simp
    · rw [show max (max 0 a) (maxL l) = maxL l by omega]
      rcases ih with e | e
      · exact .inl e
      · exact .inr (by simp [e])
theorem maxL_congr {l : List Nat} {f g : Nat → Int} (h : ∀ x ∈ l, f x = g x) : maxL (l.map f) = maxL (l.map g) := by
  rw [List.map_congr_left h]

/-- The sum of f 0, .., f (k - 1). -/
def sumI (f : Nat → Int) : Nat → Int
  | 0 => 0
  | k + 1 => sumI f k + f k

theorem sumI_le (f : Nat → Int) (c : Int) (k : Nat) (h : ∀ i, i < k → f i ≤ c) : sumI f k ≤ c * k := by
  induction k with
  | zero => simp [sumI]
  | succ k ih =>
    have := ih (fun i hi => h i (by omega))
    have := h k (by omega)
    simp only [sumI]
    have e : c * ((k + 1 : Nat) : Int) = c * k + c := by rw [Int.natCast_add, Int.mul_add]; simp
    omega
theorem sumI_ge (f : Nat → Int) (c : Int) (k : Nat) (h : ∀ i, i < k → c ≤ f i) : c * k ≤ sumI f k := by
  induction k with
  | zero => simp [sumI]
  | succ k ih =>
    have := ih (fun i hi => h i (by omega))
    have := h k (by omega)
    simp only [sumI]
    have e : c * ((k + 1 : Nat) : Int) = c * k + c := by rw [Int.natCast_add, Int.mul_add]; simp
    omega
theorem sumI_congr {f g : Nat → Int} (k : Nat) (h : ∀ i, i < k → f i = g i) : sumI f k = sumI g k := by
  induction k with
  | zero => rfl
  | succ k ih => simp only [sumI]; rw [ih (fun i hi => h i (by omega)), h k (by omega)]
theorem sumI_add (f g : Nat → Int) (k : Nat) : sumI (fun i => f i + g i) k = sumI f k + sumI g k := by
  induction k with
  | zero => rfl
  | succ k ih => simp only [sumI]; rw [ih]; omega
theorem sumI_mono {f g : Nat → Int} (k : Nat) (h : ∀ i, i < k → f i ≤ g i) : sumI f k ≤ sumI g k := by
  induction k with
  | zero => exact Int.le_refl _
  | succ k ih =>
    have := ih (fun i hi => h i (by omega))
    have := h k (by omega)
    simp only [sumI]; omega
theorem sumI_nonneg {f : Nat → Int} (k : Nat) (h : ∀ i, i < k → 0 ≤ f i) : 0 ≤ sumI f k := by
  have := sumI_ge f 0 k h; omega
theorem sumI_grow {f : Nat → Int} (k m : Nat) (hk : k ≤ m) (h : ∀ i, i < m → 0 ≤ f i) : sumI f k ≤ sumI f m := by
  induction m with
  | zero => obtain rfl : k = 0 := by omega
            exact Int.le_refl _
  | succ m ih =>
    by_cases e : k = m + 1
    · subst e; exact Int.le_refl _
    · have := ih (by omega) (fun i hi => h i (by omega))
      have := h m (by omega)
      simp only [sumI]; omega

/-- All work. -/
def workF (p : PlanL) : Int := sumI (wkOf p) p.length
theorem workK_bd {p : PlanL} (h : PlanOk p) (k : Nat) (hk : k ≤ p.length) : (k : Int) ≤ sumI (wkOf p) k ∧ sumI (wkOf p) k ≤ 600 := by
  have h1 := sumI_le (wkOf p) 20 k (fun i hi => (h.work i (by omega)).2)
  have h2 := sumI_ge (wkOf p) 1 k (fun i hi => (h.work i (by omega)).1)
  have := h.len
  omega

theorem mem_after {p : PlanL} {i : Int} {k : Nat} : k ∈ afterOf p i ↔ k < p.length ∧ i ∈ ndOf p k := by
  simp [afterOf]

/-- Tails, so many steps deep. -/
def tailN (p : PlanL) : Nat → Nat → Int
  | 0, _ => 0
  | f + 1, i => wkOf p i + maxL ((afterOf p i).map (tailN p f))
/-- The longest way from a task to an end. -/
def tailF (p : PlanL) (i : Nat) : Int := tailN p p.length i

/- How many hang on i. -/
open Classical in
noncomputable def hk (p : PlanL) (i : Nat) : Nat := (List.range p.length).countP (fun j => decide (Reach p j i))
theorem hk_lt {p : PlanL} (h : PlanOk p) {i k : Nat} (hk' : k < p.length) (hi : (i : Int) ∈ ndOf p k) : hk p k < hk p i := by
  unfold hk
  refine countP_lt _ _ _ (fun x _ hx => ?_) ⟨k, by simpa using hk', ?_, ?_⟩
  · simp at hx ⊢
    exact .more hx hi
  · simpa using Reach.one hi
  · simpa using h.acyc k hk'
theorem countP_below {α : Type} (P : α → Bool) (l : List α) (x : α) (hx : x ∈ l) (h : P x = false) : l.countP P < l.length := by
  have h1 := countP_lt P (fun _ => true) l (fun _ _ _ => rfl) ⟨x, hx, rfl, h⟩
  have h2 := List.countP_le_length (p := fun _ : α => true) (l := l)
  omega
open Classical in
theorem hk_n {p : PlanL} (h : PlanOk p) {i : Nat} (hi : i < p.length) : hk p i < p.length := by
  unfold hk
  have := countP_below (fun j => decide (Reach p j i)) (List.range p.length) i (by simpa using hi) (by simpa using h.acyc i hi)
  simpa using this
open Classical in
theorem rk_n {p : PlanL} (h : PlanOk p) {i : Nat} (hi : i < p.length) : rk p i < p.length := by
  unfold rk
  have := countP_below (fun j => decide (Reach p i j)) (List.range p.length) i (by simpa using hi) (by simpa using h.acyc i hi)
  simpa using this

theorem tailN_stable {p : PlanL} (h : PlanOk p) (f g : Nat) (i : Nat) (hf : hk p i < f) (hg : hk p i < g) : tailN p f i = tailN p g i := by
  induction f generalizing g i with
  | zero => omega
  | succ f ih =>
    cases g with
    | zero => omega
    | succ g =>
      simp only [tailN]
      congr 1
      refine maxL_congr fun k hkm => ?_
      obtain ⟨h1, h2⟩ := mem_after.1 hkm
      have := hk_lt h h1 h2
      exact ih g k (by omega) (by omega)

theorem tailF_eq {p : PlanL} (h : PlanOk p) {i : Nat} (hi : i < p.length) : tailF p i = wkOf p i + maxL ((afterOf p i).map (tailF p)) := by
  unfold tailF
  have h1 := hk_n h hi
  obtain ⟨n, hn⟩ : ∃ n, p.length = n := ⟨_, rfl⟩
  rw [hn] at h1 ⊢
  cases n with
  | zero => omega
  | succ n =>
    show wkOf p i + maxL ((afterOf p i).map (tailN p n)) = _
    congr 1
    refine maxL_congr fun k hkm => ?_
    obtain ⟨h2, h3⟩ := mem_after.1 hkm
    have := hk_lt h h2 h3
    exact tailN_stable h _ _ k (by omega) (by omega)

theorem tailN_le {p : PlanL} (h : PlanOk p) (f i : Nat) (hi : i < p.length) : 0 ≤ tailN p f i ∧ tailN p f i ≤ 20 * f := by
  induction f generalizing i with
  | zero => simp [tailN]
  | succ f ih =>
    have hw := h.work i hi
    have h0 := maxL_ge ((afterOf p i).map (tailN p f))
    have h1 : maxL ((afterOf p i).map (tailN p f)) ≤ 20 * f := maxL_le (by omega) (fun x hx => by
      obtain ⟨k, hk, rfl⟩ := List.mem_map.1 hx
      exact (ih k (mem_after.1 hk).1).2)
    simp only [tailN]
    omega
theorem tailF_le {p : PlanL} (h : PlanOk p) {i : Nat} (hi : i < p.length) : wkOf p i ≤ tailF p i ∧ tailF p i ≤ 600 := by
  have h1 := (tailN_le h p.length i hi).2
  have h2 := h.len
  refine ⟨?_, by unfold tailF; omega⟩
  rw [tailF_eq h hi]
  have := maxL_ge ((afterOf p i).map (tailF p))
  omega
theorem tailF_need {p : PlanL} (h : PlanOk p) {i k : Nat} (hi : i < p.length) (hk : (k : Int) ∈ ndOf p i) : tailF p i + wkOf p k ≤ tailF p k := by
  have hkn := h.need i k hk
  rw [tailF_eq h (i := k) (by omega)]
  have := maxL_mem (List.mem_map_of_mem (f := tailF p) (mem_after.2 ⟨hi, hk⟩))
  omega

/-- How long a plan takes at least. -/
def spanF (p : PlanL) : Int := maxL ((List.range p.length).map (tailF p))
theorem spanF_ge {p : PlanL} {i : Nat} (hi : i < p.length) : tailF p i ≤ spanF p :=
  maxL_mem (List.mem_map_of_mem (f := tailF p) (by simpa using hi))
theorem spanF_bd {p : PlanL} (h : PlanOk p) : 0 ≤ spanF p ∧ spanF p ≤ 600 :=
  ⟨maxL_ge _, maxL_le (by omega) (fun x hx => by
    obtain ⟨k, hk, rfl⟩ := List.mem_map.1 hx
    exact (tailF_le h (by simpa using hk)).2)⟩

/-- Ranks, so many steps deep. -/
def rankN (p : PlanL) : Nat → Nat → Int
  | 0, _ => 0
  | f + 1, i => maxL ((ndOf p i).map fun k => rankN p f k.toNat + wkOf p k.toNat)
/-- The least step at which a task could begin. -/
def rankF (p : PlanL) (i : Nat) : Int := rankN p p.length i

theorem need_nat {p : PlanL} (h : PlanOk p) {i : Nat} {k : Int} (hk : k ∈ ndOf p i) : k.toNat < p.length ∧ ((k.toNat : Nat) : Int) = k := by
  have := h.need i k hk
  omega

theorem rankN_stable {p : PlanL} (h : PlanOk p) (f g : Nat) (i : Nat) (hf : rk p i < f) (hg : rk p i < g) : rankN p f i = rankN p g i := by
  induction f generalizing g i with
  | zero => omega
  | succ f ih =>
    cases g with
    | zero => omega
    | succ g =>
      simp only [rankN]
      congr 1
      refine List.map_congr_left fun k hkm => ?_
      have hn := need_nat h hkm
      have := rk_lt h (i := i) (k := k.toNat) (by rw [hn.2]; exact hkm)
      rw [ih g k.toNat (by omega) (by omega)]
theorem rankF_eq {p : PlanL} (h : PlanOk p) {i : Nat} (hi : i < p.length) : rankF p i = maxL ((ndOf p i).map fun k => rankF p k.toNat + wkOf p k.toNat) := by
  unfold rankF
  have h1 := rk_n h hi
  obtain ⟨n, hn⟩ : ∃ n, p.length = n := ⟨_, rfl⟩
  rw [hn] at h1 ⊢
  cases n with
  | zero => omega
  | succ n =>
    show maxL ((ndOf p i).map fun k => rankN p n k.toNat + wkOf p k.toNat) = _
    congr 1
    refine List.map_congr_left fun k hkm => ?_
    have hn := need_nat h hkm
    have := rk_lt h (i := i) (k := k.toNat) (by rw [hn.2]; exact hkm)
    rw [rankN_stable h n (n + 1) k.toNat (by omega) (by omega)]
theorem rankN_le {p : PlanL} (h : PlanOk p) (f i : Nat) : 0 ≤ rankN p f i ∧ rankN p f i ≤ 20 * f := by
  induction f generalizing i with
  | zero => simp [rankN]
  | succ f ih =>
    simp only [rankN]
    refine ⟨maxL_ge _, maxL_le (by omega) (fun x hx => ?_)⟩
    obtain ⟨k, hk, rfl⟩ := List.mem_map.1 hx
    have := (ih k.toNat).2
    have := (h.work k.toNat (need_nat h hk).1).2
    show rankN p f k.toNat + wkOf p k.toNat ≤ _
    omega
theorem rankF_bd {p : PlanL} (h : PlanOk p) (i : Nat) : 0 ≤ rankF p i ∧ rankF p i ≤ 600 := by
  have := rankN_le h p.length i
  have := h.len
  unfold rankF
  omega
theorem rankF_need {p : PlanL} (h : PlanOk p) {i k : Nat} (hi : i < p.length) (hk : (k : Int) ∈ ndOf p i) : rankF p k + wkOf p k ≤ rankF p i := by
  rw [rankF_eq h hi]
  have := maxL_mem (List.mem_map_of_mem (f := fun k : Int => rankF p k.toNat + wkOf p k.toNat) hk)
  simpa using this
/-- No task's rank and tail together are more than the span. -/
theorem rank_tail {p : PlanL} (h : PlanOk p) {i : Nat} (hi : i < p.length) : rankF p i + tailF p i ≤ spanF p := by
  obtain ⟨r, hr⟩ : ∃ r, rk p i = r := ⟨_, rfl⟩
  induction r using Nat.strongRecOn generalizing i with
  | ind r ih =>
    rcases maxL_in ((ndOf p i).map fun k => rankF p k.toNat + wkOf p k.toNat) with e | e
    · rw [rankF_eq h hi, e]
      have := spanF_ge hi
      omega
    · rw [← rankF_eq h hi] at e
      obtain ⟨k, hk, hke⟩ := List.mem_map.1 e
      have hn := need_nat h hk
      have hk' : ((k.toNat : Nat) : Int) ∈ ndOf p i := by rw [hn.2]; exact hk
      have h1 := ih _ (by rw [← hr]; exact rk_lt h hk') hn.1 rfl
      have h2 := tailF_need h hi hk'
      have hke' : rankF p k.toNat + wkOf p k.toNat = rankF p i := hke
      omega

/-- A longest way: of those that can come the first with the longest tail, and so on. -/
def wayF (p : PlanL) : Nat → List Nat → List Nat
  | 0, _ => []
  | f + 1, can => match can.find? (fun k => decide (0 < maxL (can.map (tailF p)) ∧ tailF p k = maxL (can.map (tailF p)))) with
    | some i => i :: wayF p f (afterOf p i)
    | none => []
def wayOf (p : PlanL) : List Nat := wayF p 600 (List.range p.length)

theorem wayF_len (p : PlanL) (f : Nat) (can : List Nat) : (wayF p f can).length ≤ f := by
  induction f generalizing can with
  | zero => simp [wayF]
  | succ f ih =>
    unfold wayF
    split
    · simp; exact ih _
    · simp
theorem wayF_none (p : PlanL) (f : Nat) (can : List Nat) (h : maxL (can.map (tailF p)) = 0) : wayF p f can = [] := by
  cases f with
  | zero => rfl
  | succ f =>
    unfold wayF
    have : can.find? (fun k => decide (0 < maxL (can.map (tailF p)) ∧ tailF p k = maxL (can.map (tailF p)))) = none := by
      rw [List.find?_eq_none]; intro x _; rw [h]; simp
    rw [this]
theorem find_of {α : Type} (P : α → Bool) (l : List α) (k : Nat) (hk : k < l.length) (hp : P l[k] = true) (hn : ∀ j (hj : j < k), P (l[j]'(by omega)) = false) : l.find? P = some l[k] := by
  rw [List.find?_eq_some_iff_getElem]
  exact ⟨hp, k, hk, rfl, fun j hj => by simp [hn j hj]⟩
theorem wayF_some (p : PlanL) (f : Nat) (can : List Nat) (k : Nat) (hk : k < can.length) (h0 : 0 < maxL (can.map (tailF p))) (hp : tailF p can[k] = maxL (can.map (tailF p))) (hn : ∀ j (hj : j < k), tailF p (can[j]'(by omega)) ≠ maxL (can.map (tailF p))) :
    wayF p (f + 1) can = can[k] :: wayF p f (afterOf p can[k]) := by
  have e : can.find? (fun k => decide (0 < maxL (can.map (tailF p)) ∧ tailF p k = maxL (can.map (tailF p)))) = some can[k] :=
    find_of _ _ k hk (by simp [h0, hp]) (fun j hj => by simp [hn j hj])
  rw [wayF, e]
theorem find_max {p : PlanL} (can : List Nat) (h0 : 0 < maxL (can.map (tailF p))) : ∃ k, ∃ hk : k < can.length, tailF p can[k] = maxL (can.map (tailF p)) ∧ ∀ j (hj : j < k), tailF p (can[j]'(by omega)) ≠ maxL (can.map (tailF p)) := by
  rcases maxL_in (can.map (tailF p)) with e | e
  · omega
  · obtain ⟨i, hi, hie⟩ := List.mem_map.1 e
    have : ∃ i, can.find? (fun k => decide (tailF p k = maxL (can.map (tailF p)))) = some i := by
      cases hf : can.find? (fun k => decide (tailF p k = maxL (can.map (tailF p)))) with
      | some i => exact ⟨i, rfl⟩
      | none => have := (List.find?_eq_none.1 hf) i hi; simp [hie] at this
    obtain ⟨i, hf⟩ := this
    rw [List.find?_eq_some_iff_getElem] at hf
    obtain ⟨h1, k, hk, rfl, h3⟩ := hf
    exact ⟨k, hk, by simpa using h1, fun j hj => by simpa using h3 j hj⟩

/-- A way: each needs the one ahead. -/
def WayOk (p : PlanL) : List Nat → Prop
  | [] => True
  | [i] => i < p.length
  | i :: k :: l => i < p.length ∧ (i : Int) ∈ ndOf p k ∧ WayOk p (k :: l)

/-- What such a way is, and its work. -/
theorem wayF_ok {p : PlanL} (h : PlanOk p) (f : Nat) (can : List Nat) (hc : ∀ i ∈ can, i < p.length) (hf : maxL (can.map (tailF p)) ≤ f) :
    WayOk p (wayF p f can) ∧ ((wayF p f can).map (wkOf p)).sum = maxL (can.map (tailF p)) ∧ (∀ i ∈ (wayF p f can).head?, i ∈ can) := by
  induction f generalizing can with
  | zero =>
    have := maxL_ge (can.map (tailF p))
    simp [wayF, WayOk]; omega
  | succ f ih =>
    by_cases h0 : maxL (can.map (tailF p)) = 0
    · rw [wayF_none p _ _ h0, h0]; simp [WayOk]
    · have h1 := maxL_ge (can.map (tailF p))
      obtain ⟨k, hk, e1, e2⟩ := find_max (p := p) can (by omega)
      rw [wayF_some p f can k hk (by omega) e1 e2]
      have hi := hc can[k] (List.getElem_mem hk)
      have ht := tailF_eq h hi
      have hw := h.work _ hi
      obtain ⟨a1, a2, a3⟩ := ih (afterOf p can[k]) (fun i hi => (mem_after.1 hi).1) (by omega)
      refine ⟨?_, ?_, ?_⟩
      · cases hl : wayF p f (afterOf p can[k]) with
        | nil => exact hi
        | cons m l =>
          rw [hl] at a1 a3
          exact ⟨hi, (mem_after.1 (a3 m (by simp))).2, a1⟩
      · simp only [List.map_cons, List.sum_cons]
        rw [a2]; omega
      · intro i hi; simp at hi; subst hi; exact List.getElem_mem hk

theorem wayOk_nth {p : PlanL} {l : List Nat} (h : WayOk p l) : (∀ k (hk : k < l.length), l[k] < p.length) ∧ (∀ k (hk : k + 1 < l.length), ((l[k] : Nat) : Int) ∈ ndOf p l[k + 1]) := by
  induction l with
  | nil => simp
  | cons i l ih =>
    cases l with
    | nil =>
      refine ⟨fun k hk => ?_, fun k hk => by simp at hk⟩
      obtain rfl : k = 0 := by simpa using hk
      exact h
    | cons m l =>
      obtain ⟨h1, h2, h3⟩ := h
      obtain ⟨b1, b2⟩ := ih h3
      refine ⟨fun k hk => ?_, fun k hk => ?_⟩
      · cases k with
        | zero => exact h1
        | succ k => exact b1 k (by simpa using hk)
      · cases k with
        | zero => exact h2
        | succ k => exact b2 k (by simpa using hk)

/-- One number of a row of numbers is another. -/
def setI (f : Nat → Int) (i : Nat) (x : Int) : Nat → Int := fun j => if j = i then x else f j

/-- The tails, when task x is reckoned. -/
def stepT (p : PlanL) (f : Nat → Int) (x : Nat) : Nat → Int := setI f x (max (f x) (maxL ((afterOf p x).map f)) + wkOf p x)
def foldT (p : PlanL) (l : List Nat) : Nat → Int := l.foldl (stepT p) (fun _ => 0)
theorem foldT_snoc (p : PlanL) (l : List Nat) (x : Nat) : foldT p (l ++ [x]) = stepT p (foldT p l) x := by simp [foldT]

theorem foldT_bd {p : PlanL} (h : PlanOk p) (l : List Nat) (hl : ∀ x ∈ l, x < p.length) (j : Nat) : 0 ≤ foldT p l j ∧ foldT p l j ≤ 20 * l.length := by
  obtain ⟨r, hr⟩ : ∃ r, r = l.reverse := ⟨_, rfl⟩
  obtain rfl : l = r.reverse := by rw [hr]; simp
  clear hr
  induction r generalizing j with
  | nil => simp [foldT]
  | cons x r ih =>
    rw [List.reverse_cons, foldT_snoc]
    have ih' := fun j => ih j (fun y hy => hl y (by simp at hy ⊢; exact .inl hy))
    have hx := h.work x (hl x (by simp))
    have h1 : maxL ((afterOf p x).map (foldT p r.reverse)) ≤ 20 * r.reverse.length := maxL_le (by omega) (fun y hy => by
      obtain ⟨k, _, rfl⟩ := List.mem_map.1 hy
      exact (ih' k).2)
    have h0 := ih' x
    have h2 := ih' j
    simp only [stepT, setI, List.length_append, List.length_singleton]
    split <;> omega

theorem foldT_rev {p : PlanL} (h : PlanOk p) (k : Nat) (hk : k ≤ p.length) (j : Nat) : foldT p ((orderOf p).reverse.take k) j = if j ∈ (orderOf p).reverse.take k then tailF p j else 0 := by
  have hl : (orderOf p).length = p.length := topo_len h p.length (Nat.le_refl _)
  have hnd : (orderOf p).Nodup := topo_nodup h p.length (Nat.le_refl _)
  induction k generalizing j with
  | zero => simp [foldT]
  | succ k ih =>
    have hk' : k < (orderOf p).reverse.length := by simp; omega
    obtain ⟨x, hx⟩ : ∃ x, (orderOf p).reverse[k] = x := ⟨_, rfl⟩
    have htk : (orderOf p).reverse.take (k + 1) = (orderOf p).reverse.take k ++ [x] := by rw [List.take_succ_eq_append_getElem hk', hx]
    have hxn : x < p.length := (orderOf_mem h x).1 (by rw [← hx]; simp)
    have hrnd : ((orderOf p).reverse.take (k + 1)).Nodup := List.Nodup.sublist (List.take_sublist _ _) (List.pairwise_reverse.2 (hnd.imp Ne.symm))
    rw [htk] at hrnd ⊢
    have hxk : x ∉ (orderOf p).reverse.take k := fun hm => by
      rw [List.nodup_append] at hrnd
      exact hrnd.2.2 x hm x (by simp) rfl
    have haft : ∀ m ∈ afterOf p x, m ∈ (orderOf p).reverse.take k := by
      intro m hm
      obtain ⟨hmn, hmx⟩ := mem_after.1 hm
      obtain ⟨a, ha, hae⟩ := List.getElem_of_mem ((orderOf_mem h m).2 hmn)
      have hr := (orderOf_ready h a m (by rw [List.getElem?_eq_getElem ha, hae])).2
      simp only [readyB, Bool.and_eq_true, List.all_eq_true] at hr
      have h1 := hr.2 _ hmx
      have h1' : x ∈ (orderOf p).take a := by simpa using h1
      obtain ⟨b, hb, hbe⟩ := List.getElem_of_mem h1'
      rw [List.getElem_take] at hbe
      have hb' : b < a := by simp at hb; omega
      have hxb : (orderOf p)[p.length - 1 - k]'(by omega) = x := by
        rw [← hx, List.getElem_reverse]; congr 1; omega
      have heq : b = p.length - 1 - k := by
        rcases Nat.lt_trichotomy b (p.length - 1 - k) with hlt | heq | hlt
        · exact absurd (hbe.trans hxb.symm) ((List.pairwise_iff_getElem.1 hnd) b _ (by omega) (by omega) hlt)
        · exact heq
        · exact absurd (hxb.trans hbe.symm) ((List.pairwise_iff_getElem.1 hnd) _ b (by omega) (by omega) hlt)
      rw [List.mem_take_iff_getElem]
      refine ⟨p.length - 1 - a, by simp; omega, ?_⟩
      rw [List.getElem_reverse, ← hae]
      congr 1; omega
    rw [foldT_snoc]
    simp only [stepT, setI]
    by_cases e : j = x
    · subst e
      rw [if_pos rfl, if_pos (by simp), ih (by omega) j, if_neg hxk, tailF_eq h hxn]
      have : maxL ((afterOf p j).map (foldT p ((orderOf p).reverse.take k))) = maxL ((afterOf p j).map (tailF p)) :=
        maxL_congr fun m hm => by rw [ih (by omega) m, if_pos (haft m hm)]
      rw [this]
      have := maxL_ge ((afterOf p j).map (tailF p))
      omega
    · rw [if_neg e, ih (by omega) j]
      simp [e]
theorem foldT_all {p : PlanL} (h : PlanOk p) (j : Nat) (hj : j < p.length) : foldT p (orderOf p).reverse j = tailF p j := by
  have hl : (orderOf p).length = p.length := topo_len h p.length (Nat.le_refl _)
  have := foldT_rev h p.length (Nat.le_refl _) j
  rw [List.take_of_length_le (by simp; omega), if_pos (by simpa using (orderOf_mem h j).2 hj)] at this
  exact this

end Go.Proofs.YtoofalchkedciaaGreatDoor

namespace Go.Proofs.YtoofalchkedciaaGreatDoor

/-- What of a task a worker has done, and one more. -/
def gUsed (p : PlanL) (k : Wk) : Int := if 0 ≤ k.task then wkOf p k.task.toNat + 1 - k.left else 0
def usedS (p : PlanL) : Nat → (Nat → Wk) → Int
  | 0, _ => 0
  | m + 1, f => usedS p m f + gUsed p (f m)
def openI (p : PlanL) (D : Nat → Bool) (i : Nat) : Int := if D i then 0 else wkOf p i + 1
/-- What is still to be done. -/
def gPhi (p : PlanL) (m : Nat) (s : GSt) : Int := sumI (openI p s.done) p.length - usedS p m s.ws

theorem used_up (p : PlanL) (m : Nat) (f : Nat → Wk) (h : Nat) (k : Wk) (hm : h < m) : usedS p m (upW f h k) + gUsed p (f h) = usedS p m f + gUsed p k := by
  have key : ∀ m, (h < m → usedS p m (upW f h k) + gUsed p (f h) = usedS p m f + gUsed p k) ∧ (m ≤ h → usedS p m (upW f h k) = usedS p m f) := by
    intro m
    induction m with
    | zero => exact ⟨fun h => by omega, fun _ => rfl⟩
    | succ m ih =>
      refine ⟨fun hl => ?_, fun hl => ?_⟩
      · simp only [usedS]
        by_cases e : h = m
        · subst e
          rw [upW_same, ih.2 (Nat.le_refl _)]
          omega
        · have := ih.1 (by omega)
          rw [upW_other _ _ _ _ (Ne.symm e)]
          omega
      · simp only [usedS]
        rw [ih.2 (by omega), upW_other _ _ _ _ (by omega)]
  exact (key m).1 hm

theorem open_up (p : PlanL) (D : Nat → Bool) (i : Nat) (hi : i < p.length) (hD : D i = false) : sumI (openI p D) p.length = sumI (openI p (upB D i)) p.length + wkOf p i + 1 := by
  have key : ∀ n, (i < n → sumI (openI p D) n = sumI (openI p (upB D i)) n + wkOf p i + 1) ∧ (n ≤ i → sumI (openI p D) n = sumI (openI p (upB D i)) n) := by
    intro n
    induction n with
    | zero => exact ⟨fun h => by omega, fun _ => rfl⟩
    | succ n ih =>
      have hn : ∀ j, j ≠ i → openI p (upB D i) j = openI p D j := fun j hj => by unfold openI upB; rw [if_neg hj]
      refine ⟨fun hl => ?_, fun hl => ?_⟩
      · simp only [sumI]
        by_cases e : i = n
        · subst e
          rw [ih.2 (Nat.le_refl _)]
          have e1 : openI p D i = wkOf p i + 1 := by unfold openI; rw [hD]; rfl
          have e2 : openI p (upB D i) i = 0 := by unfold openI upB; rw [if_pos rfl]; rfl
          omega
        · have := ih.1 (by omega)
          have := hn n (Ne.symm e)
          omega
      · simp only [sumI]
        have := hn n (by omega)
        rw [ih.2 (by omega), this]
  exact (key p.length).1 hi

theorem used_none (p : PlanL) {k : Wk} (h : k.task < 0) : gUsed p k = 0 := by unfold gUsed; rw [if_neg (by omega)]
theorem used_take (p : PlanL) (k : Wk) {x : Int} (h : 0 ≤ x) : gUsed p (gTake p k x) = 1 := by
  unfold gUsed gTake
  simp only
  rw [if_pos h]
  omega

/-- A step gets on, or its hand goes to sleep for want of work. -/
theorem step_phi {p : PlanL} {room m : Nat} {s : GSt} (H : GInv p room m s) {h : Nat} (pick : Nat) (hm : h < m) (hr : (h : Int) ∉ s.row) :
    (gPhi p m (gStep p room m s h pick).1 + 1 = gPhi p m s ∧ (h : Int) ∉ (gStep p room m s h pick).1.row) ∨ ((gStep p room m s h pick).1 = (gSleep s h).1 ∧ s.spill = [] ∧ ownW (s.ws h) = []) := by
  unfold gStep
  rw [if_neg hr]
  by_cases ht : 0 ≤ (s.ws h).task
  · rw [if_pos ht]
    left
    obtain ⟨l1, l2⟩ := H.left h hm ht
    unfold gWork
    by_cases hl : 1 < (s.ws h).left
    · rw [if_pos hl]
      refine ⟨?_, hr⟩
      unfold gPhi
      simp only
      have := used_up p m s.ws h ⟨(s.ws h).near, (s.ws h).ring, (s.ws h).task, (s.ws h).left - 1⟩ hm
      have e1 : gUsed p (s.ws h) = wkOf p (s.ws h).task.toNat + 1 - (s.ws h).left := by unfold gUsed; rw [if_pos ht]
      have e2 : gUsed p ⟨(s.ws h).near, (s.ws h).ring, (s.ws h).task, (s.ws h).left - 1⟩ = wkOf p (s.ws h).task.toNat + 1 - ((s.ws h).left - 1) := by unfold gUsed; simp only; rw [if_pos ht]
      omega
    · rw [if_neg hl]
      obtain ⟨i, hi, hir⟩ := H.task hm ht
      obtain ⟨i1, i2, i3⟩ := readyL_mem.1 hir
      refine ⟨?_, fun hx => hr (List.mem_of_mem_drop hx)⟩
      unfold gPhi
      simp only
      have e0 : (s.ws h).task.toNat = i := by rw [hi]; rfl
      rw [e0]
      have e1 : gUsed p (s.ws h) = wkOf p i + 1 - (s.ws h).left := by unfold gUsed; rw [if_pos ht, e0]
      have e2 : gUsed p (putAll room ⟨(s.ws h).near, (s.ws h).ring, -1, (s.ws h).left - 1⟩ (natL (newL p s.done i))).1 = 0 := used_none p (by rw [(putAll_keep room _ _).1]; show (-1 : Int) < 0; omega)
      have e3 := used_up p m s.ws h (putAll room ⟨(s.ws h).near, (s.ws h).ring, -1, (s.ws h).left - 1⟩ (natL (newL p s.done i))).1 hm
      have e4 := open_up p s.done i i1 i2
      omega
  · rw [if_neg ht]
    have ht' : (s.ws h).task < 0 := by omega
    have take : ∀ (sp : List Int) (k : Wk) (x : Int), 0 ≤ x → gPhi p m ⟨s.done, sp, s.row, upW s.ws h (gTake p k x)⟩ + 1 = gPhi p m s := by
      intro sp k x hx
      unfold gPhi
      simp only
      have e1 := used_up p m s.ws h (gTake p k x) hm
      have e2 := used_none p ht'
      have e3 := used_take p k hx
      omega
    unfold gFind
    by_cases hn : 0 ≤ (s.ws h).near
    · rw [if_pos hn]
      exact .inl ⟨take _ _ _ hn, hr⟩
    · rw [if_neg hn]
      by_cases hg : (s.ws h).ring ≠ []
      · rw [if_pos hg]
        obtain ⟨i, hi, _⟩ := H.mem (x := (s.ws h).ring.getLastD 0) (held_own hm (by unfold ownW; exact List.mem_append.2 (.inl (List.mem_append.2 (.inl (getLastD_mem _ hg))))))
        exact .inl ⟨take _ _ _ (by omega), hr⟩
      · rw [if_neg hg]
        have hown : ownW (s.ws h) = [] := by
          have : (s.ws h).ring = [] := by simpa using hg
          unfold ownW
          rw [this, nearL_neg (by omega), nearL_neg ht']
          rfl
        split
        · rename_i x rest hs
          obtain ⟨i, hi, _⟩ := H.mem (x := x) (by unfold heldL; rw [hs]; simp)
          exact .inl ⟨take _ _ _ (by omega), hr⟩
        · rename_i hs
          split
          · exact .inr ⟨rfl, hs, hown⟩
          · rename_i he
            unfold gRob
            split
            · exact .inr ⟨rfl, hs, hown⟩
            · rename_i x xs hl
              left
              have hom : pick % m < m := Nat.mod_lt _ (by omega)
              have hxr : x ∈ (s.ws (pick % m)).ring := by
                have : x ∈ x :: xs := by simp
                rw [← hl] at this
                exact List.mem_of_mem_take this
              obtain ⟨i, hi, _⟩ := H.mem (x := x) (held_own hom (by unfold ownW; simp [hxr]))
              refine ⟨?_, hr⟩
              unfold gPhi
              simp only
              have e1 := used_up p m s.ws (pick % m) ⟨(s.ws (pick % m)).near, (s.ws (pick % m)).ring.drop (halfOf (s.ws (pick % m)).ring), (s.ws (pick % m)).task, (s.ws (pick % m)).left⟩ hom
              have e2 := used_up p m (upW s.ws (pick % m) ⟨(s.ws (pick % m)).near, (s.ws (pick % m)).ring.drop (halfOf (s.ws (pick % m)).ring), (s.ws (pick % m)).task, (s.ws (pick % m)).left⟩) h (gTake p (putAll room (s.ws h) xs).1 x) hm
              rw [upW_other _ _ _ _ (Ne.symm he)] at e2
              have e3 := used_none p ht'
              have e4 := used_take p (putAll room (s.ws h) xs).1 (x := x) (by omega)
              have e5 : gUsed p ⟨(s.ws (pick % m)).near, (s.ws (pick % m)).ring.drop (halfOf (s.ws (pick % m)).ring), (s.ws (pick % m)).task, (s.ws (pick % m)).left⟩ = gUsed p (s.ws (pick % m)) := rfl
              omega

/-- While something lies in the spill a hand is awake. -/
def Watch (m : Nat) (s : GSt) : Prop := s.spill ≠ [] → ∃ h, h < m ∧ (h : Int) ∉ s.row
theorem step_watch {p : PlanL} {room m : Nat} {s : GSt} (H : GInv p room m s) (W : Watch m s) {h : Nat} (pick : Nat) (hm : h < m) : Watch m (gStep p room m s h pick).1 := by
  by_cases hr : (h : Int) ∈ s.row
  · unfold gStep; rw [if_pos hr]; exact W
  · rcases step_phi H pick hm hr with ⟨_, h2⟩ | ⟨h1, h2, _⟩
    · exact fun _ => ⟨h, hm, h2⟩
    · rw [h1]; exact fun hs => absurd h2 hs
theorem new_watch (p : PlanL) (m : Nat) (h1 : 1 ≤ m) : Watch m (gNew p) := fun _ => ⟨0, by omega, fun h => nomatch h⟩

/-- So many hands have had their turn in a round. -/
def roundN (p : PlanL) (room m r : Nat) (s : GSt) : Nat → GSt
  | 0 => s
  | h + 1 => (gStep p room m (roundN p room m r s h) h r).1

theorem round_keeps {p : PlanL} (hok : PlanOk p) {room m : Nat} (h1 : 1 ≤ room) {s : GSt} (H : GInv p room m s) (W : Watch m s) (r : Nat) (k : Nat) (hk : k ≤ m) : GInv p room m (roundN p room m r s k) ∧ Watch m (roundN p room m r s k) := by
  induction k with
  | zero => exact ⟨H, W⟩
  | succ k ih =>
    obtain ⟨H', W'⟩ := ih (by omega)
    exact ⟨gStep_inv hok h1 H' r (by omega), step_watch H' W' r (by omega)⟩

theorem round_phi {p : PlanL} (hok : PlanOk p) {room m : Nat} (h1 : 1 ≤ room) {s : GSt} (H : GInv p room m s) (W : Watch m s) (r : Nat) (k : Nat) (hk : k ≤ m) :
    gPhi p m (roundN p room m r s k) + 1 ≤ gPhi p m s ∨ (let t := roundN p room m r s k; t.done = s.done ∧ t.spill = s.spill ∧ t.ws = s.ws ∧ (∀ j : Nat, k ≤ j → ((j : Int) ∈ t.row ↔ (j : Int) ∈ s.row)) ∧
      ∀ j : Nat, j < k → (j : Int) ∉ s.row → ownW (s.ws j) = [] ∧ s.spill = []) := by
  induction k with
  | zero => exact .inr ⟨rfl, rfl, rfl, fun _ _ => Iff.rfl, fun j hj => by omega⟩
  | succ k ih =>
    have ih := ih (by omega)
    obtain ⟨H', W'⟩ := round_keeps hok h1 H W r k (by omega)
    have e : roundN p room m r s (k + 1) = (gStep p room m (roundN p room m r s k) k r).1 := rfl
    rw [e]
    generalize roundN p room m r s k = t at *
    have hkm : k < m := by omega
    by_cases hr : (k : Int) ∈ t.row
    · have e2 : (gStep p room m t k r).1 = t := by unfold gStep; rw [if_pos hr]
      rw [e2]
      rcases ih with ih | ⟨i1, i2, i3, i4, i5⟩
      · exact .inl ih
      · refine .inr ⟨i1, i2, i3, fun j hj => i4 j (by omega), fun j hj hjr => ?_⟩
        by_cases ej : j = k
        · subst ej; exact absurd ((i4 j (Nat.le_refl _)).1 hr) hjr
        · exact i5 j (by omega) hjr
    · rcases step_phi H' r hkm hr with ⟨h2, _⟩ | ⟨h2, h3, h4⟩
      · left
        rcases ih with ih | ⟨i1, i2, i3, i4, i5⟩
        · omega
        · have : gPhi p m t = gPhi p m s := by unfold gPhi; rw [i1, i3]
          omega
      · rw [h2]
        have e3 : gPhi p m (gSleep t k).1 = gPhi p m t := rfl
        rcases ih with ih | ⟨i1, i2, i3, i4, i5⟩
        · exact .inl (by rw [e3]; exact ih)
        · refine .inr ⟨i1, i2, i3, fun j hj => ?_, fun j hj hjr => ?_⟩
          · show (j : Int) ∈ t.row ++ [(k : Int)] ↔ _
            rw [List.mem_append, List.mem_singleton, i4 j (by omega)]
            constructor
            · rintro (h | h)
              · exact h
              · omega
            · exact .inl
          · by_cases ej : j = k
            · subst ej; exact ⟨by rw [← i3]; exact h4, by rw [← i2]; exact h3⟩
            · exact i5 j (by omega) hjr

/-- A round gets on while not all are done. -/
theorem round_on {p : PlanL} (hok : PlanOk p) {room m : Nat} (h1 : 1 ≤ room) {s : GSt} (H : GInv p room m s) (W : Watch m s) (r : Nat) (h0 : 0 < leftN p s.done) : gPhi p m (roundN p room m r s m) + 1 ≤ gPhi p m s := by
  rcases round_phi hok h1 H W r m (Nat.le_refl _) with h | ⟨_, _, _, _, i5⟩
  · exact h
  · exfalso
    have hne := ready_ne hok h0
    have hl := H.held.length_eq
    rw [natL_len] at hl
    have hx : ∃ x, x ∈ heldL m s := List.exists_mem_of_length_pos (by omega)
    obtain ⟨x, hx⟩ := hx
    unfold heldL at hx
    rcases List.mem_append.1 hx with hx | hx
    · have hsp : s.spill ≠ [] := fun e => by rw [e] at hx; cases hx
      obtain ⟨j, hj, hjr⟩ := W hsp
      exact hsp (i5 j hj hjr).2
    · obtain ⟨j, hj, hxj⟩ := workL_mem.1 hx
      have hne : ownW (s.ws j) ≠ [] := fun e => by rw [e] at hxj; cases hxj
      exact hne (i5 j hj (H.awake hne)).1

/-- The work of tasks. -/
def sumW (p : PlanL) (l : List Int) : Nat := (l.map fun x => (wkOf p x.toNat).toNat).sum
theorem sumW_app (p : PlanL) (a b : List Int) : sumW p (a ++ b) = sumW p a + sumW p b := by simp [sumW]
theorem used_le {p : PlanL} {k : Wk} (hl : 0 ≤ k.task → 1 ≤ k.left) : gUsed p k ≤ (sumW p (ownW k) : Int) := by
  unfold gUsed
  by_cases h : 0 ≤ k.task
  · rw [if_pos h]
    have e : sumW p (ownW k) = sumW p (k.ring ++ nearL k.near) + (wkOf p k.task.toNat).toNat := by
      unfold ownW
      rw [sumW_app, nearL_pos h]
      simp [sumW]
    have := hl h
    omega
  · rw [if_neg h]; omega
theorem usedS_le {p : PlanL} {m : Nat} {f : Nat → Wk} (hl : ∀ h, h < m → 0 ≤ (f h).task → 1 ≤ (f h).left) : usedS p m f ≤ (sumW p (workL m f) : Int) := by
  induction m with
  | zero => show (0 : Int) ≤ _; omega
  | succ m ih =>
    have h1 := ih (fun h hh => hl h (by omega))
    have h2 := used_le (p := p) (hl m (by omega))
    simp only [usedS, workL, sumW_app]
    omega
theorem open_ge {p : PlanL} (hok : PlanOk p) (D : Nat → Bool) (k : Nat) (hk : k ≤ p.length) : (sumW p (natL ((List.range k).filter (readyB p D))) : Int) + ((List.range k).countP (fun i => !D i) : Nat) ≤ sumI (openI p D) k := by
  induction k with
  | zero => simp [sumW, natL, sumI]
  | succ k ih =>
    have h1 := ih (by omega)
    have h2 := (hok.work k (by omega)).1
    rw [List.range_succ, List.filter_append, natL_app, sumW_app, List.countP_append]
    simp only [sumI]
    have e1 : sumW p (natL ([k].filter (readyB p D))) = if readyB p D k then (wkOf p k).toNat else 0 := by
      by_cases h : readyB p D k = true
      · rw [if_pos h]; simp [List.filter, h, natL, sumW]
      · rw [if_neg h]; simp [List.filter, h, natL, sumW]
    have e2 : [k].countP (fun i => !D i) = if D k then 0 else 1 := by cases h : D k <;> simp [h]
    have e3 : openI p D k = if D k = true then 0 else wkOf p k + 1 := rfl
    rw [e1, e2, e3]
    cases h : D k with
    | true =>
      have : readyB p D k = false := by unfold readyB; rw [h]; rfl
      rw [this]
      simp only [Bool.false_eq_true, if_false, if_true]
      omega
    | false =>
      simp only [Bool.false_eq_true, if_false]
      split <;> omega
theorem phi_ge {p : PlanL} (hok : PlanOk p) {room m : Nat} {s : GSt} (H : GInv p room m s) : (leftN p s.done : Int) ≤ gPhi p m s := by
  have h1 := usedS_le (p := p) (m := m) (f := s.ws) (fun h hh ht => (H.left h hh ht).1)
  have h2 := open_ge hok s.done p.length (Nat.le_refl _)
  have h3 : sumW p (heldL m s) = sumW p (natL (readyL p s.done)) := (H.held.map _).sum_nat
  unfold heldL at h3
  rw [sumW_app] at h3
  unfold gPhi leftN
  have h4 : readyL p s.done = (List.range p.length).filter (readyB p s.done) := rfl
  rw [h4] at h3
  omega
theorem phi_le {p : PlanL} (hok : PlanOk p) {room m : Nat} {s : GSt} (H : GInv p room m s) : gPhi p m s ≤ workF p + p.length := by
  have h1 : 0 ≤ usedS p m s.ws := by
    have key : ∀ k, k ≤ m → 0 ≤ usedS p k s.ws := by
      intro k
      induction k with
      | zero => intro _; exact Int.le_refl _
      | succ k ih =>
        intro hk
        have := ih (by omega)
        have h2 : 0 ≤ gUsed p (s.ws k) := by
          unfold gUsed
          by_cases ht : 0 ≤ (s.ws k).task
          · rw [if_pos ht]; have := H.left k (by omega) ht; omega
          · rw [if_neg ht]; exact Int.le_refl _
        simp only [usedS]
        omega
    exact key m (Nat.le_refl _)
  have h2 : ∀ k, k ≤ p.length → sumI (openI p s.done) k ≤ sumI (wkOf p) k + (k : Int) := by
    intro k
    induction k with
    | zero => intro _; simp [sumI]
    | succ k ih =>
      intro hk
      have := ih (by omega)
      have := (hok.work k (by omega)).1
      simp only [sumI]
      have e3 : openI p s.done k = if s.done k = true then 0 else wkOf p k + 1 := rfl
      rw [e3]
      split <;> omega
  have := h2 p.length (Nat.le_refl _)
  unfold gPhi workF
  omega

/-- How it stands when so many rounds are over. -/
def Late (p : PlanL) (m r : Nat) (s : GSt) : Prop := leftN p s.done = 0 ∨ gPhi p m s + r ≤ workF p + p.length
theorem late_start {p : PlanL} (hok : PlanOk p) {room m : Nat} {s : GSt} (H : GInv p room m s) : Late p m 0 s := .inr (by have := phi_le hok H; omega)
theorem late_round {p : PlanL} (hok : PlanOk p) {room m r : Nat} (h1 : 1 ≤ room) {s : GSt} (H : GInv p room m s) (W : Watch m s) (h : Late p m r s) : Late p m (r + 1) (roundN p room m r s m) := by
  by_cases h0 : leftN p s.done = 0
  · left
    have key : ∀ k, k ≤ m → leftN p (roundN p room m r s k).done = 0 := by
      intro k
      induction k with
      | zero => intro _; exact h0
      | succ k ih =>
        intro hk
        have ih := ih (by omega)
        obtain ⟨H', _⟩ := round_keeps hok h1 H W r k (by omega)
        have e : roundN p room m r s (k + 1) = (gStep p room m (roundN p room m r s k) k r).1 := rfl
        rw [e]
        generalize roundN p room m r s k = t at *
        have hheld : heldL m t = [] := by
          have := H'.held.length_eq
          rw [ready_none ih] at this
          exact List.eq_nil_of_length_eq_zero (by simpa [natL] using this)
        have hown : ownW (t.ws k) = [] := by
          cases e : ownW (t.ws k) with
          | nil => rfl
          | cons a l =>
            have := held_own (s := t) (show k < m by omega) (x := a) (by rw [e]; simp)
            rw [hheld] at this
            cases this
        have htask : (t.ws k).task < 0 := by
          by_cases h : 0 ≤ (t.ws k).task
          · have : (t.ws k).task ∈ ownW (t.ws k) := by unfold ownW; rw [nearL_pos h]; simp
            rw [hown] at this; cases this
          · omega
        unfold gStep
        split
        · exact ih
        · rw [if_neg (by omega)]
          have key : (gFind p room m t k r).1.done = t.done := by
            unfold gFind gRob gSleep
            split
            · rfl
            · split
              · rfl
              · split
                · rfl
                · split
                  · rfl
                  · split <;> rfl
          rw [key]; exact ih
    exact key m (Nat.le_refl _)
  · have h2 := round_on hok h1 H W r (by omega)
    rcases h with h | h
    · exact absurd h h0
    · exact .inr (by omega)
theorem late_end {p : PlanL} (hok : PlanOk p) {room m r : Nat} {s : GSt} (H : GInv p room m s) (h : Late p m r s) (hr : workF p + p.length ≤ r) : leftN p s.done = 0 := by
  rcases h with h | h
  · exact h
  · have := phi_ge hok H
    omega

end Go.Proofs.YtoofalchkedciaaGreatDoor
