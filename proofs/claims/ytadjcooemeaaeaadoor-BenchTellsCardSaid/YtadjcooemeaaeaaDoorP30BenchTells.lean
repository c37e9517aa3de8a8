/-
  Tails, as the document reckons them: backwards along the order. No program is named here.
-/
import Derived.Test.YtadjcooemeaaeaaDoorP10BenchTells
namespace Go.Proofs.YtadjcooemeaaeaaDoor

/-- What stands for a task when those of D are reckoned. -/
def tailG (p : PlanL) (D : Nat → Bool) (j : Nat) : Int := maxL (((afterOf p j).filter D).map (tailF p)) + (if D j = true then wkOf p j else 0)
/-- Those behind the first i of the order. -/
def doneT (p : PlanL) (i : Nat) : Nat → Bool := fun j => decide (j ∈ (orderOf p).drop i)

theorem maxL_filter_or (A : List Nat) (D : Nat → Bool) (x : Nat) (f : Nat → Int) : maxL ((A.filter (fun j => decide (j = x) || D j)).map f) = max (maxL ((A.filter D).map f)) (if x ∈ A then f x else 0) := by
  have h0 := maxL_ge ((A.filter D).map f)
  have h1 := maxL_ge ((A.filter (fun j => decide (j = x) || D j)).map f)
  apply Int.le_antisymm
  · refine maxL_le (by omega) (fun y hy => ?_)
    obtain ⟨z, hz, rfl⟩ := List.mem_map.1 hy
    obtain ⟨hzA, hzD⟩ := List.mem_filter.1 hz
    simp only [Bool.or_eq_true, decide_eq_true_eq] at hzD
    rcases hzD with rfl | hzD
    · rw [if_pos hzA]; omega
    · have := maxL_mem (l := (A.filter D).map f) (List.mem_map.2 ⟨z, List.mem_filter.2 ⟨hzA, hzD⟩, rfl⟩)
      omega
  · have h2 : maxL ((A.filter D).map f) ≤ maxL ((A.filter (fun j => decide (j = x) || D j)).map f) := maxL_le h1 (fun y hy => by
      obtain ⟨z, hz, rfl⟩ := List.mem_map.1 hy
      obtain ⟨hzA, hzD⟩ := List.mem_filter.1 hz
      exact maxL_mem (List.mem_map.2 ⟨z, List.mem_filter.2 ⟨hzA, by simp [hzD]⟩, rfl⟩))
    have h3 : (if x ∈ A then f x else 0) ≤ maxL ((A.filter (fun j => decide (j = x) || D j)).map f) := by
      split
      · rename_i hx
        exact maxL_mem (List.mem_map.2 ⟨x, List.mem_filter.2 ⟨hx, by simp⟩, rfl⟩)
      · exact h1
    omega

theorem doneT_step {p : PlanL} {i : Nat} (hi : i < (orderOf p).length) (j : Nat) : doneT p i j = (decide (j = (orderOf p)[i]) || doneT p (i + 1) j) := by
  unfold doneT
  rw [List.drop_eq_getElem_cons hi, Bool.eq_iff_iff]
  simp only [decide_eq_true_eq, Bool.or_eq_true, List.mem_cons]
theorem order_nodup {p : PlanL} (h : PlanOk p) : (orderOf p).Nodup := topo_nodup h _ (Nat.le_refl _)
theorem doneT_self {p : PlanL} (h : PlanOk p) {i : Nat} (hi : i < (orderOf p).length) : doneT p (i + 1) (orderOf p)[i] = false := by
  unfold doneT
  rw [decide_eq_false_iff_not]
  intro hm
  obtain ⟨a, ha, e⟩ := List.getElem_of_mem hm
  rw [List.getElem_drop] at e
  simp only [List.length_drop] at ha
  exact (List.pairwise_iff_getElem.1 (order_nodup h)) i (i + 1 + a) hi (by omega) (by omega) e.symm
theorem before_take {p : PlanL} (h : PlanOk p) (k : Nat) (hk : k < (orderOf p).length) : ∀ y ∈ ndOf p (orderOf p)[k], y.toNat ∈ (orderOf p).take k := by
  intro y hy
  have := (orderOf_ready h k (orderOf p)[k] (List.getElem?_eq_getElem hk)).2
  simp only [readyB, Bool.and_eq_true, List.all_eq_true] at this
  simpa using this.2 y hy
theorem doneT_need {p : PlanL} (h : PlanOk p) {i : Nat} (hi : i < (orderOf p).length) {k : Int} (hk : k ∈ ndOf p (orderOf p)[i]) : doneT p (i + 1) k.toNat = false ∧ k.toNat ≠ (orderOf p)[i] := by
  have hb := before_take h i hi k hk
  obtain ⟨a, ha, e⟩ := List.getElem_of_mem hb
  rw [List.getElem_take] at e
  have ha' : a < i := by simp at ha; omega
  refine ⟨?_, fun e2 => ?_⟩
  · unfold doneT
    rw [decide_eq_false_iff_not]
    intro hm
    obtain ⟨c, hc, e2⟩ := List.getElem_of_mem hm
    rw [List.getElem_drop] at e2
    simp only [List.length_drop] at hc
    exact (List.pairwise_iff_getElem.1 (order_nodup h)) a (i + 1 + c) (by omega) (by omega) (by omega) (e.trans e2.symm)
  · rw [← e] at e2
    exact (List.pairwise_iff_getElem.1 (order_nodup h)) a i (by omega) hi ha' e2
theorem doneT_after {p : PlanL} (h : PlanOk p) {i : Nat} (hi : i < (orderOf p).length) {z : Nat} (hz : z ∈ afterOf p ((orderOf p)[i] : Nat)) : doneT p (i + 1) z = true := by
  obtain ⟨hzn, hzi⟩ := mem_after.1 hz
  obtain ⟨k, hk, e⟩ := List.getElem_of_mem ((orderOf_mem h z).2 hzn)
  have hb := before_take h k hk ((orderOf p)[i] : Nat) (by rw [e]; exact hzi)
  rw [Int.toNat_natCast] at hb
  obtain ⟨a, ha, e2⟩ := List.getElem_of_mem hb
  rw [List.getElem_take] at e2
  have ha' : a < k := by simp at ha; omega
  have hai : a = i := by
    rcases Nat.lt_trichotomy a i with hl | hl | hl
    · exact absurd e2 ((List.pairwise_iff_getElem.1 (order_nodup h)) a i (by omega) hi hl)
    · exact hl
    · exact absurd e2.symm ((List.pairwise_iff_getElem.1 (order_nodup h)) i a hi (by omega) hl)
  unfold doneT
  rw [decide_eq_true_eq, List.mem_iff_getElem]
  exact ⟨k - (i + 1), by simp; omega, by rw [List.getElem_drop]; rw [← e]; congr 1; omega⟩

/-- The task itself. -/
theorem tailG_self {p : PlanL} (h : PlanOk p) {i : Nat} (hi : i < (orderOf p).length) : tailG p (doneT p (i + 1)) (orderOf p)[i] + wkOf p (orderOf p)[i] = tailF p (orderOf p)[i] := by
  have hn : (orderOf p)[i] < p.length := (orderOf_mem h _).1 (List.getElem_mem hi)
  unfold tailG
  rw [doneT_self h hi, List.filter_eq_self.2 (fun z hz => doneT_after h hi hz), tailF_eq h hn]
  simp
  omega
theorem tailG_self' {p : PlanL} (h : PlanOk p) {i : Nat} (hi : i < (orderOf p).length) : tailG p (doneT p i) (orderOf p)[i] = tailF p (orderOf p)[i] := by
  have hn : (orderOf p)[i] < p.length := (orderOf_mem h _).1 (List.getElem_mem hi)
  unfold tailG
  have h1 : doneT p i (orderOf p)[i] = true := by rw [doneT_step hi]; simp
  rw [h1, List.filter_eq_self.2 (fun z hz => by rw [doneT_step hi, doneT_after h hi hz, Bool.or_true]), tailF_eq h hn, if_pos rfl]
  omega
/-- Another one. -/
theorem tailG_other {p : PlanL} (h : PlanOk p) {i : Nat} (hi : i < (orderOf p).length) {j : Nat} (hj : j ≠ (orderOf p)[i]) :
    tailG p (doneT p i) j = if (j : Int) ∈ ndOf p (orderOf p)[i] then max (tailG p (doneT p (i + 1)) j) (tailF p (orderOf p)[i]) else tailG p (doneT p (i + 1)) j := by
  have hn : (orderOf p)[i] < p.length := (orderOf_mem h _).1 (List.getElem_mem hi)
  have e1 : doneT p i j = doneT p (i + 1) j := by rw [doneT_step hi]; simp [hj]
  have e2 : (fun z => doneT p i z) = fun z => decide (z = (orderOf p)[i]) || doneT p (i + 1) z := funext fun z => doneT_step hi z
  have e3 : (doneT p i) = fun z => decide (z = (orderOf p)[i]) || doneT p (i + 1) z := e2
  have hA : (orderOf p)[i] ∈ afterOf p (j : Int) ↔ (j : Int) ∈ ndOf p (orderOf p)[i] := ⟨fun hm => (mem_after.1 hm).2, fun hm => mem_after.2 ⟨hn, hm⟩⟩
  have hm := maxL_filter_or (afterOf p (j : Int)) (doneT p (i + 1)) (orderOf p)[i] (tailF p)
  have hf : tailG p (doneT p i) j = maxL (((afterOf p (j : Int)).filter (fun z => decide (z = (orderOf p)[i]) || doneT p (i + 1) z)).map (tailF p)) + (if doneT p (i + 1) j = true then wkOf p j else 0) := by
    unfold tailG
    rw [e1, e3]
  rw [hf, hm]
  by_cases hx : (j : Int) ∈ ndOf p (orderOf p)[i]
  · have hd := (doneT_need h hi hx).1
    rw [Int.toNat_natCast] at hd
    rw [if_pos (hA.2 hx), if_pos hx]
    unfold tailG
    rw [hd]
    simp
  · rw [if_neg (fun hm => hx (hA.1 hm)), if_neg hx]
    unfold tailG
    have := maxL_ge (((afterOf p (j : Int)).filter (doneT p (i + 1))).map (tailF p))
    omega

theorem tailG_zero (p : PlanL) (j : Nat) : tailG p (doneT p (orderOf p).length) j = 0 := by
  have e : doneT p (orderOf p).length = fun _ => false := by funext z; unfold doneT; simp
  unfold tailG
  rw [e, List.filter_eq_nil_iff.2 (by simp)]
  rfl
theorem tailG_all {p : PlanL} (h : PlanOk p) {j : Nat} (hj : j < p.length) : tailG p (doneT p 0) j = tailF p j := by
  have e : ∀ z, z < p.length → doneT p 0 z = true := fun z hz => by unfold doneT; rw [List.drop_zero, decide_eq_true_eq]; exact (orderOf_mem h z).2 hz
  unfold tailG
  rw [List.filter_eq_self.2 (fun z hz => e z (mem_after.1 hz).1), tailF_eq h hj, e j hj, if_pos rfl]
  omega
theorem tailG_bd {p : PlanL} (h : PlanOk p) (D : Nat → Bool) (j : Nat) (hj : j < p.length) : 0 ≤ tailG p D j ∧ tailG p D j ≤ 620 := by
  have h1 := maxL_ge (((afterOf p (j : Int)).filter D).map (tailF p))
  have h2 : maxL (((afterOf p (j : Int)).filter D).map (tailF p)) ≤ 600 := maxL_le (by omega) (fun y hy => by
    obtain ⟨z, hz, rfl⟩ := List.mem_map.1 hy
    exact (tailF_le h (mem_after.1 (List.mem_filter.1 hz).1).1).2)
  have h3 := h.work j hj
  unfold tailG
  split <;> omega

/-- On the way through the needs of x, q of them gone through. -/
def tailH (p : PlanL) (D : Nat → Bool) (x q : Nat) (j : Nat) : Int := if j = x then tailF p x else if (j : Int) ∈ (ndOf p x).take q then max (tailG p D j) (tailF p x) else tailG p D j

theorem tailH_step {p : PlanL} {D : Nat → Bool} {x q y : Nat} (hq : q < (ndOf p x).length) (hy : nth (ndOf p x) q = (y : Int)) (hyx : y ≠ x) (j : Nat) :
    tailH p D x (q + 1) j = if j = y then max (tailH p D x q y) (tailF p x) else tailH p D x q j := by
  unfold tailH
  have e : (ndOf p x).take (q + 1) = (ndOf p x).take q ++ [(y : Int)] := by rw [List.take_succ_eq_append_getElem hq, ← hy]; simp [nth, hq]
  by_cases e1 : j = y
  · subst e1
    rw [if_neg hyx, if_pos rfl, if_neg hyx, if_pos (by rw [e]; simp)]
    by_cases e2 : (j : Int) ∈ (ndOf p x).take q
    · rw [if_pos e2]; omega
    · rw [if_neg e2]
  · rw [if_neg e1]
    by_cases e2 : j = x
    · rw [if_pos e2, if_pos e2]
    · rw [if_neg e2, if_neg e2, e]
      have : ((j : Int) ∈ (ndOf p x).take q ++ [(y : Int)]) ↔ (j : Int) ∈ (ndOf p x).take q := by
        rw [List.mem_append, List.mem_singleton]
        exact ⟨fun h => h.resolve_right (fun h2 => e1 (by omega)), .inl⟩
      simp only [this]
theorem tailH_end {p : PlanL} (h : PlanOk p) {i : Nat} (hi : i < (orderOf p).length) (j : Nat) : tailH p (doneT p (i + 1)) (orderOf p)[i] (ndOf p (orderOf p)[i]).length j = tailG p (doneT p i) j := by
  unfold tailH
  rw [List.take_length]
  by_cases e : j = (orderOf p)[i]
  · rw [if_pos e, e, tailG_self' h hi]
  · rw [if_neg e, tailG_other h hi e]
theorem tailH_bd {p : PlanL} (h : PlanOk p) (D : Nat → Bool) (x q : Nat) (hx : x < p.length) (j : Nat) (hj : j < p.length) : 0 ≤ tailH p D x q j ∧ tailH p D x q j ≤ 620 := by
  have h1 := tailG_bd h D j hj
  have h2 := tailF_le h hx
  have h3 := h.work x hx
  unfold tailH
  split
  · omega
  · split <;> omega

end Go.Proofs.YtadjcooemeaaeaaDoor
