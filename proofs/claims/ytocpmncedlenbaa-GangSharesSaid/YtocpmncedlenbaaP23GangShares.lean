/-
  What is told of tasks that become ready, in plain words.
-/
import Derived.Test.YtocpmncedlenbaaP22GangShares
import Derived.Test.YtocpmncedlenbaaP16GangShares
namespace Go.Proofs.Ytocpmncedlenbaa

theorem Bools.congr {w : World} {A N : Nat} {f g : Nat → Bool} (h : Bools w A N f) (e : ∀ i, i < N → f i = g i) : Bools w A N g := fun i hi => by
  rw [← e i hi]; exact h i hi

/-- Who was ready, or is. -/
def tD (p : PlanL) (D : Nat → Bool) : Nat → Bool := fun k => lackN p D k == 0

/-- Who is done lacks nothing. -/
def Closed (p : PlanL) (D : Nat → Bool) : Prop := ∀ k, k < p.length → D k = true → lackN p D k = 0

theorem closed_none (p : PlanL) : Closed p (fun _ => false) := fun k _ h => by cases h

theorem lack_mono {p : PlanL} (hok : PlanOk p) {D : Nat → Bool} {i : Nat} (hi : D i = false) (k : Nat) : lackN p (upB D i) k ≤ lackN p D k := by
  have := lack_up hok D i hi k
  omega

theorem closed_up {p : PlanL} (hok : PlanOk p) {D : Nat → Bool} {i : Nat} (h : Closed p D) (hr : readyB p D i = true) : Closed p (upB D i) := by
  have hi : D i = false := by simp [readyB] at hr; exact hr.1
  intro k hk hd
  have hm := lack_mono hok hi k
  unfold upB at hd
  by_cases e : k = i
  · subst e
    rw [ready_lack] at hr
    have : lackN p D k = 0 := by simp at hr; exact hr.2
    omega
  · rw [if_neg e] at hd
    have := h k hk hd
    omega

theorem ready_of_lack {p : PlanL} {D : Nat → Bool} {i : Nat} (h : i ∈ readyL p D) : i < p.length ∧ readyB p D i = true := by
  simpa [readyL] using h

theorem ready_ne {p : PlanL} (hok : PlanOk p) {D : Nat → Bool} (h : 0 < leftN p D) : 0 < (readyL p D).length := by
  have hx : ∃ i, i < p.length ∧ D i = false := by
    unfold leftN at h
    obtain ⟨i, hi, hd⟩ := List.countP_pos_iff.1 h
    exact ⟨i, by simpa using hi, by simpa using hd⟩
  obtain ⟨i, hi, hr⟩ := exists_ready hok D hx
  exact List.length_pos_of_mem (show i ∈ readyL p D by simp [readyL, hi, hr])

theorem ready_none {p : PlanL} {D : Nat → Bool} (h : leftN p D = 0) : readyL p D = [] := by
  unfold leftN at h
  rw [List.countP_eq_zero] at h
  unfold readyL
  rw [List.filter_eq_nil_iff]
  intro i hi
  have := h i hi
  simp at this
  simp [readyB, this]

theorem natL_pair {l : List Nat} (h : l.Pairwise (· < ·)) : (natL l).Pairwise (· < ·) := by
  unfold natL
  rw [List.pairwise_map]
  exact h.imp (fun h => by omega)

theorem readyL_pair (p : PlanL) (D : Nat → Bool) : (readyL p D).Pairwise (· < ·) := List.Pairwise.filter _ (List.pairwise_lt_range (n := p.length))
theorem newL_pair (p : PlanL) (D : Nat → Bool) (i : Nat) : (newL p D i).Pairwise (· < ·) := List.Pairwise.filter _ (afterOf_pair p i)

theorem start_fresh (p : PlanL) : ∀ x ∈ natL (readyL p (fun _ => false)), x ∈ U p.length (fun _ => false) := by
  intro x hx
  obtain ⟨i, hi, rfl⟩ := List.mem_map.1 hx
  exact mem_U.2 ⟨i, (ready_of_lack hi).1, rfl, rfl⟩
theorem start_told (p : PlanL) (j : Nat) (hj : j < p.length) : mark (fun _ => false) (natL (readyL p (fun _ => false))) j = tD p (fun _ => false) j := by
  unfold mark tD
  rw [Bool.false_or, Bool.eq_iff_iff, decide_eq_true_eq, natL_mem]
  simp [readyL, hj, ready_lack]

theorem new_fresh {p : PlanL} (hok : PlanOk p) {D : Nat → Bool} {i : Nat} (hi : D i = false) : ∀ x ∈ natL (newL p D i), x ∈ U p.length (tD p D) := by
  intro x hx
  obtain ⟨k, hk, rfl⟩ := List.mem_map.1 hx
  have hk2 := List.mem_filter.1 hk
  have hm := afterOf_mem.1 hk2.1
  have h1 := lack_up hok D i hi k
  rw [if_pos hm.2] at h1
  exact mem_U.2 ⟨k, hm.1, by unfold tD; simp; omega, rfl⟩

theorem new_told {p : PlanL} (hok : PlanOk p) {D : Nat → Bool} {i : Nat} (hi : D i = false) (j : Nat) (hj : j < p.length) : mark (tD p D) (natL (newL p D i)) j = tD p (upB D i) j := by
  unfold mark tD
  rw [Bool.eq_iff_iff]
  simp only [Bool.or_eq_true, beq_iff_eq, decide_eq_true_eq, natL_mem]
  have h1 := lack_up hok D i hi j
  constructor
  · rintro (h | h)
    · omega
    · have := (List.mem_filter.1 h).2
      simpa using this
  · intro h
    by_cases hm : (i : Int) ∈ ndOf p j
    · right
      exact List.mem_filter.2 ⟨afterOf_mem.2 ⟨hj, hm⟩, by simp [h]⟩
    · left
      rw [if_neg hm] at h1
      omega

theorem state_ready {p : PlanL} {D : Nat → Bool} {i : Nat} (h : readyB p D i = true) : D i = false ∧ lackN p D i = 0 := by
  rw [ready_lack] at h
  simpa using h

end Go.Proofs.Ytocpmncedlenbaa
