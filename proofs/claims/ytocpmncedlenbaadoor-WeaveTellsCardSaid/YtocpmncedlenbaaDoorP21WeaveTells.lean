/-
  A part of a plan: tasks that live, without the others, are a plan. No program is named here.
-/
import Derived.Test.YtocpmncedlenbaaDoorP15WeaveTells
namespace Go.Proofs.YtocpmncedlenbaaDoor

/-- Those that live, of the first k. -/
def keepL (live : Nat → Bool) (k : Nat) : List Nat := (List.range k).filter live
/-- The place of a task among them. -/
def placeF (live : Nat → Bool) (i : Nat) : Nat := (keepL live i).length
theorem keepL_succ (live : Nat → Bool) (k : Nat) : keepL live (k + 1) = if live k then keepL live k ++ [k] else keepL live k := by
  unfold keepL
  rw [List.range_succ, List.filter_append]
  cases h : live k <;> simp [h]
theorem keepL_mem {live : Nat → Bool} {k i : Nat} : i ∈ keepL live k ↔ i < k ∧ live i = true := by simp [keepL]
theorem keepL_len (live : Nat → Bool) (k : Nat) : (keepL live k).length ≤ k := by
  have := List.length_filter_le live (List.range k)
  simpa [keepL] using this
theorem place_mono (live : Nat → Bool) (i k : Nat) (h : i ≤ k) : placeF live i ≤ placeF live k := by
  induction k with
  | zero => obtain rfl : i = 0 := by omega
            exact Nat.le_refl _
  | succ k ih =>
    by_cases e : i = k + 1
    · subst e; exact Nat.le_refl _
    · have := ih (by omega)
      unfold placeF at *
      rw [keepL_succ]
      split
      · simp; omega
      · exact this
theorem place_lt {live : Nat → Bool} {i k : Nat} (hi : live i = true) (h : i < k) : placeF live i < placeF live k := by
  have := place_mono live (i + 1) k h
  have e : placeF live (i + 1) = placeF live i + 1 := by unfold placeF; rw [keepL_succ, if_pos hi]; simp
  omega
theorem keepL_get {live : Nat → Bool} {i n : Nat} (hi : live i = true) (h : i < n) : (keepL live n)[placeF live i]? = some i := by
  induction n with
  | zero => omega
  | succ n ih =>
    rw [keepL_succ]
    by_cases e : i = n
    · subst e
      rw [if_pos hi]
      unfold placeF
      rw [List.getElem?_append_right (Nat.le_refl _)]
      simp
    · have := ih (by omega)
      split
      · rw [List.getElem?_append_left]
        · exact this
        · exact place_lt hi (by omega)
      · exact this
/-- The task at a place. -/
def orig (live : Nat → Bool) (n a : Nat) : Nat := (keepL live n)[a]?.getD 0
theorem orig_ok {live : Nat → Bool} {n a : Nat} (h : a < (keepL live n).length) : orig live n a < n ∧ live (orig live n a) = true := by
  unfold orig
  rw [List.getElem?_eq_getElem h]
  exact keepL_mem.1 (List.getElem_mem h)
theorem orig_place {live : Nat → Bool} {n i : Nat} (hi : live i = true) (h : i < n) : orig live n (placeF live i) = i := by unfold orig; rw [keepL_get hi h]; rfl

/-- A task, its needs by their places. -/
def subT (p : PlanL) (live : Nat → Bool) (i : Nat) : Int × List Int := (wkOf p i, (ndOf p i).map fun y => ((placeF live y.toNat : Nat) : Int))
def midP (p : PlanL) (live : Nat → Bool) (k : Nat) : PlanL := (keepL live k).map fun i => (wkOf p i, ndOf p i)
def subP (p : PlanL) (live : Nat → Bool) : PlanL := (keepL live p.length).map (subT p live)
theorem subP_len (p : PlanL) (live : Nat → Bool) : (subP p live).length = (keepL live p.length).length := by simp [subP]
theorem midP_len (p : PlanL) (live : Nat → Bool) (k : Nat) : (midP p live k).length = (keepL live k).length := by simp [midP]

theorem subP_at {p : PlanL} {live : Nat → Bool} {a : Nat} (h : a < (keepL live p.length).length) : (subP p live)[a]? = some (subT p live (orig live p.length a)) := by
  unfold subP orig
  rw [List.getElem?_map, List.getElem?_eq_getElem h]
  rfl
theorem subP_wk {p : PlanL} {live : Nat → Bool} {a : Nat} (h : a < (keepL live p.length).length) : wkOf (subP p live) a = wkOf p (orig live p.length a) := by
  rw [wkOf, subP_at h]; rfl
theorem subP_nd {p : PlanL} {live : Nat → Bool} {a : Nat} (h : a < (keepL live p.length).length) : ndOf (subP p live) a = (ndOf p (orig live p.length a)).map fun y => ((placeF live y.toNat : Nat) : Int) := by
  rw [ndOf, subP_at h]; rfl

/-- Who lives needs only who live. -/
def ClosedL (p : PlanL) (live : Nat → Bool) : Prop := ∀ i, i < p.length → live i = true → ∀ y ∈ ndOf p i, live y.toNat = true

theorem subP_need {p : PlanL} (h : PlanOk p) {live : Nat → Bool} (hc : ClosedL p live) {a b : Nat} (ha : a < (keepL live p.length).length) (hb : (b : Int) ∈ ndOf (subP p live) a) :
    b < (keepL live p.length).length ∧ ((orig live p.length b : Nat) : Int) ∈ ndOf p (orig live p.length a) := by
  rw [subP_nd ha] at hb
  obtain ⟨y, hy, hyb⟩ := List.mem_map.1 hb
  obtain ⟨h1, h2⟩ := orig_ok ha
  have hl := hc _ h1 h2 y hy
  obtain ⟨hn, hy2⟩ := need_nat h hy
  have hb' : b = placeF live y.toNat := by omega
  subst hb'
  refine ⟨place_lt hl hn, ?_⟩
  rw [orig_place hl hn, hy2]; exact hy

theorem rising_map {l : List Int} {f : Int → Int} (h : rising l = true) (hf : ∀ x ∈ l, ∀ y ∈ l, x < y → f x < f y) : rising (l.map f) = true := by
  induction l with
  | nil => rfl
  | cons a l ih =>
    cases l with
    | nil => rfl
    | cons b l =>
      simp only [rising, Bool.and_eq_true, decide_eq_true_eq, List.map_cons] at h ⊢
      exact ⟨hf a (by simp) b (by simp) h.1, ih h.2 (fun x hx y hy => hf x (by simp [hx]) y (by simp [hy]))⟩

theorem subP_ok {p : PlanL} (h : PlanOk p) {live : Nat → Bool} (hc : ClosedL p live) : PlanOk (subP p live) := by
  have hl := keepL_len live p.length
  have reach : ∀ a b, a < (keepL live p.length).length → Reach (subP p live) a b → b < (keepL live p.length).length ∧ Reach p (orig live p.length a) (orig live p.length b) := by
    intro a b ha hr
    induction hr with
    | one hk =>
      obtain ⟨h1, h2⟩ := subP_need h hc ha hk
      exact ⟨h1, .one h2⟩
    | more _ hk ih =>
      obtain ⟨h1, h2⟩ := subP_need h hc ih.1 hk
      exact ⟨h1, ih.2.more h2⟩
  refine ⟨by rw [subP_len]; have := h.len; omega, fun a ha => ?_, fun a ha hr => ?_⟩
  · rw [subP_len] at ha
    obtain ⟨h1, h2⟩ := orig_ok ha
    rw [subP_at ha, Option.getD_some, subP_len]
    have hw := h.work _ h1
    unfold taskFault subT
    have hany : ((ndOf p (orig live p.length a)).map fun y => ((placeF live y.toNat : Nat) : Int)).any (outOf (keepL live p.length).length) = false := by
      rw [List.any_eq_false]
      intro z hz
      obtain ⟨y, hy, rfl⟩ := List.mem_map.1 hz
      have := place_lt (hc _ h1 h2 y hy) (need_nat h hy).1
      rw [show placeF live p.length = (keepL live p.length).length from rfl] at this
      simp [outOf]; omega
    have hris : rising ((ndOf p (orig live p.length a)).map fun y => ((placeF live y.toNat : Nat) : Int)) = true :=
      rising_map (h.rise _) fun x hx y hy hxy => by
        have a1 := need_nat h hx
        have a2 := need_nat h hy
        have := place_lt (hc _ h1 h2 x hx) (show x.toNat < y.toNat by omega)
        omega
    simp only [hany, hris]
    rw [if_neg (by simp; omega)]
    rfl
  · rw [subP_len] at ha
    exact h.acyc _ (orig_ok ha).1 (reach a a ha hr).2

theorem sumI_list (f : Nat → Int) (k : Nat) : sumI f k = ((List.range k).map f).sum := by
  induction k with
  | zero => rfl
  | succ k ih => rw [List.range_succ, List.map_append, List.sum_append, ← ih]; simp [sumI]

theorem filter_sum (l : List Nat) (f : Nat → Int) (P : Nat → Bool) (h : ∀ x ∈ l, 0 ≤ f x) : ((l.filter P).map f).sum ≤ (l.map f).sum := by
  induction l with
  | nil => simp
  | cons a l ih =>
    have i := ih (fun x hx => h x (by simp [hx]))
    have ha := h a (by simp)
    rw [List.filter_cons]
    split
    · simp only [List.map_cons, List.sum_cons]; omega
    · simp only [List.map_cons, List.sum_cons]; omega

theorem subP_work {p : PlanL} (h : PlanOk p) (live : Nat → Bool) : workF (subP p live) ≤ workF p := by
  unfold workF
  rw [sumI_list, sumI_list, subP_len]
  have e : (List.range (keepL live p.length).length).map (wkOf (subP p live)) = (keepL live p.length).map (wkOf p) := by
    apply List.ext_getElem
    · simp
    · intro i h1 h2
      have hi : i < (keepL live p.length).length := by simpa using h1
      simp only [List.getElem_map, List.getElem_range]
      rw [subP_wk hi]
      unfold orig
      rw [List.getElem?_eq_getElem hi]
      rfl
  rw [e]
  exact filter_sum _ _ _ (fun x hx => by have := (h.work x (by simpa using hx)).1; omega)

theorem subP_tail {p : PlanL} (h : PlanOk p) {live : Nat → Bool} (hc : ClosedL p live) (a : Nat) (ha : a < (keepL live p.length).length) : tailF (subP p live) a ≤ tailF p (orig live p.length a) := by
  have hs := subP_ok h hc
  obtain ⟨r, hr⟩ : ∃ r, hk (subP p live) a = r := ⟨_, rfl⟩
  induction r using Nat.strongRecOn generalizing a with
  | ind r ih =>
    have h1 := (orig_ok ha).1
    rw [tailF_eq hs (by rw [subP_len]; exact ha), tailF_eq h h1, subP_wk ha]
    have : maxL ((afterOf (subP p live) (a : Int)).map (tailF (subP p live))) ≤ maxL ((afterOf p ((orig live p.length a : Nat) : Int)).map (tailF p)) := by
      refine maxL_le (maxL_ge _) fun y hy => ?_
      obtain ⟨k, hk', rfl⟩ := List.mem_map.1 hy
      obtain ⟨h2, h3⟩ := mem_after.1 hk'
      rw [subP_len] at h2
      have h4 := ih _ (by rw [← hr]; exact hk_lt hs (by rw [subP_len]; exact h2) h3) k h2 rfl
      have h5 := (subP_need h hc h2 h3).2
      have := maxL_mem (List.mem_map_of_mem (f := tailF p) (mem_after.2 ⟨(orig_ok h2).1, h5⟩))
      omega
    omega
theorem subP_span {p : PlanL} (h : PlanOk p) {live : Nat → Bool} (hc : ClosedL p live) : spanF (subP p live) ≤ spanF p := by
  refine maxL_le (maxL_ge _) fun y hy => ?_
  obtain ⟨a, ha, rfl⟩ := List.mem_map.1 hy
  have ha : a < (keepL live p.length).length := by rw [← subP_len]; simpa using ha
  have := subP_tail h hc a ha
  have := spanF_ge (orig_ok ha).1
  omega

/-- While needs are put in their places: the first j are, the others not yet. -/
def mixP (p : PlanL) (live : Nat → Bool) (j : Nat) : PlanL := (subP p live).take j ++ (midP p live p.length).drop j
theorem mixP_zero (p : PlanL) (live : Nat → Bool) : mixP p live 0 = midP p live p.length := rfl
theorem mixP_all (p : PlanL) (live : Nat → Bool) : mixP p live (keepL live p.length).length = subP p live := by
  unfold mixP
  rw [List.drop_of_length_le (by rw [midP_len]; exact Nat.le_refl _), List.take_of_length_le (by rw [subP_len]; exact Nat.le_refl _), List.append_nil]
theorem mixP_len (p : PlanL) (live : Nat → Bool) (j : Nat) (hj : j ≤ (keepL live p.length).length) : (mixP p live j).length = (keepL live p.length).length := by
  unfold mixP
  rw [List.length_append, List.length_take, List.length_drop, subP_len, midP_len]; omega
theorem mixP_get {p : PlanL} {live : Nat → Bool} {j a : Nat} (hj : j ≤ (keepL live p.length).length) (ha : a < (keepL live p.length).length) :
    (mixP p live j)[a]? = some (if a < j then subT p live (orig live p.length a) else (wkOf p (orig live p.length a), ndOf p (orig live p.length a))) := by
  unfold mixP
  by_cases e : a < j
  · rw [if_pos e, List.getElem?_append_left (by rw [List.length_take, subP_len]; omega), List.getElem?_take_of_lt e, subP_at ha]
  · rw [if_neg e, List.getElem?_append_right (by rw [List.length_take, subP_len]; omega), List.getElem?_drop, List.length_take, subP_len, show j + (a - min j (keepL live p.length).length) = a by omega]
    unfold midP orig
    rw [List.getElem?_map, List.getElem?_eq_getElem ha]
    rfl
theorem mixP_wk {p : PlanL} {live : Nat → Bool} {j a : Nat} (hj : j ≤ (keepL live p.length).length) (ha : a < (keepL live p.length).length) : wkOf (mixP p live j) a = wkOf p (orig live p.length a) := by
  rw [wkOf, mixP_get hj ha]; split <;> rfl
theorem mixP_nd {p : PlanL} {live : Nat → Bool} {j a : Nat} (hj : j ≤ (keepL live p.length).length) (ha : a < (keepL live p.length).length) :
    ndOf (mixP p live j) a = if a < j then (ndOf p (orig live p.length a)).map (fun y => ((placeF live y.toNat : Nat) : Int)) else ndOf p (orig live p.length a) := by
  rw [ndOf, mixP_get hj ha]; split <;> rfl

end Go.Proofs.YtocpmncedlenbaaDoor
