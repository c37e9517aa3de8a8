/-
  How long a greedy way takes, in plain words (Graham, Brent). No program is named here.
  Who works at each step, in general: no hand is idle while a task is ready (Graham). No program is named here.
-/
import Derived.Test.YtocpmncedlenbaaGreatDoorP31TopWeave
import Derived.Test.YtocpmncedlenbaaGreatDoorP4TopWeave
namespace Go.Proofs.YtocpmncedlenbaaGreatDoor

theorem gAt_mem {p : PlanL} {hands s i : Nat} (h : i ∈ gAt p hands s) : i < p.length ∧ gOk p (gLeft p hands s) i = true := gRow_mem h
theorem gAt_full {p : PlanL} {hands s i : Nat} (h : (gAt p hands s).length < hands) (hi : i < p.length) (hg : gOk p (gLeft p hands s) i = true) : i ∈ gAt p hands s := by
  unfold gAt gRow at *
  have h1 : ((List.range p.length).filter (gOk p (gLeft p hands s))).length < hands := by rw [List.length_take] at h; omega
  rw [List.take_of_length_le (by omega), List.mem_filter]
  exact ⟨by simpa using hi, hg⟩

theorem gOk_iff {p : PlanL} {left : Nat → Int} {i : Nat} : gOk p left i = true ↔ 0 < left i ∧ ∀ k ∈ ndOf p i, left k.toNat ≤ 0 := by
  constructor
  · intro h; exact ⟨gOk_pos h, gOk_need h⟩
  · rintro ⟨h1, h2⟩
    unfold gOk
    simp only [Bool.and_eq_true, decide_eq_true_eq, Bool.not_eq_true']
    refine ⟨h1, ?_⟩
    rw [List.any_eq_false]
    intro k hk
    have := h2 k hk
    simp; omega

/-- At the end nothing is left. -/
theorem gEnd_zero {p : PlanL} {hands s : Nat} (hok : PlanOk p) (h1 : 1 ≤ hands) (h : GEnd p hands s) (i : Nat) (hi : i < p.length) : gLeft p hands s i = 0 := by
  have hge := gLeft_ge p hands s hok
  by_cases e : gLeft p hands s i = 0
  · exact e
  · exfalso
    have := (hge i hi).1
    obtain ⟨j, hj, hr⟩ := exists_ready hok (fun j => decide (gLeft p hands s j ≤ 0)) ⟨i, hi, by simp; omega⟩
    simp only [readyB, Bool.and_eq_true, Bool.not_eq_true', decide_eq_false_iff_not, List.all_eq_true, decide_eq_true_eq] at hr
    have hgo : gOk p (gLeft p hands s) j = true := gOk_iff.2 ⟨by omega, fun k hk => hr.2 k hk⟩
    have hn := h.1
    unfold gAt at hn
    have := gRow_nil h1 hn j hj
    rw [this] at hgo
    cases hgo

theorem gLeft_down (p : PlanL) (hands s i : Nat) : gLeft p hands (s + 1) i ≤ gLeft p hands s i ∧ gLeft p hands s i - 1 ≤ gLeft p hands (s + 1) i := by
  rw [gLeft_succ]; split <;> omega
theorem gLeft_work (p : PlanL) (hands s i : Nat) : gLeft p hands s i ≤ wkOf p i := by
  induction s with
  | zero => exact Int.le_refl _
  | succ s ih => have := (gLeft_down p hands s i).1; omega

/-- Who needs one that is not done has not begun. -/
theorem gLeft_wait {p : PlanL} {hands : Nat} (s : Nat) {i k : Nat} (hk : (i : Int) ∈ ndOf p k) (h : 0 < gLeft p hands s i) : gLeft p hands (s + 1) k = wkOf p k := by
  have step : ∀ t, 0 < gLeft p hands t i → gLeft p hands (t + 1) k = gLeft p hands t k := fun t ht => by
    rw [gLeft_succ, if_neg]
    intro hm
    have := gOk_need (gAt_mem hm).2 (i : Int) hk
    rw [Int.toNat_natCast] at this
    omega
  induction s with
  | zero => exact step 0 h
  | succ s ih => rw [step (s + 1) h]; exact ih (by have := (gLeft_down p hands s i).1; omega)

/-- What is left of the way behind a task, that itself is not done. -/
def gRem (p : PlanL) (hands t i : Nat) : Int := if 0 < gLeft p hands t i then gLeft p hands t i + maxL ((afterOf p i).map (tailF p)) else 0
/-- The longest of these. -/
def gM (p : PlanL) (hands t : Nat) : Int := maxL ((List.range p.length).map (gRem p hands t))

theorem gM_ge {p : PlanL} {hands t i : Nat} (hi : i < p.length) : gRem p hands t i ≤ gM p hands t := maxL_mem (List.mem_map_of_mem (f := gRem p hands t) (by simpa using hi))
theorem gM_le {p : PlanL} {hands t : Nat} {b : Int} (hb : 0 ≤ b) (h : ∀ i, i < p.length → gRem p hands t i ≤ b) : gM p hands t ≤ b := maxL_le hb (fun y hy => by
  obtain ⟨i, hi, rfl⟩ := List.mem_map.1 hy
  exact h i (by simpa using hi))
theorem gM_nonneg (p : PlanL) (hands t : Nat) : 0 ≤ gM p hands t := maxL_ge _

theorem gM_zero {p : PlanL} (h : PlanOk p) (hands : Nat) : gM p hands 0 = spanF p := by
  unfold gM spanF
  congr 1
  refine List.map_congr_left fun i hi => ?_
  have hi : i < p.length := by simpa using hi
  have := h.work i hi
  unfold gRem
  show (if 0 < wkOf p i then wkOf p i + _ else 0) = _
  rw [if_pos (by omega), tailF_eq h hi]

theorem gM_end {p : PlanL} (h : PlanOk p) {hands s : Nat} (h1 : 1 ≤ hands) (he : GEnd p hands s) : gM p hands s = 0 := by
  have := gM_nonneg p hands s
  have : gM p hands s ≤ 0 := gM_le (Int.le_refl _) (fun i hi => by unfold gRem; rw [gEnd_zero h h1 he i hi]; simp)
  omega

/-- A step takes at most one of it. -/
theorem gM_down {p : PlanL} (h : PlanOk p) (hands t : Nat) : gM p hands t - 1 ≤ gM p hands (t + 1) := by
  have h0 := gM_nonneg p hands (t + 1)
  rcases maxL_in ((List.range p.length).map (gRem p hands t)) with e | e
  · have : gM p hands t = 0 := e
    omega
  · obtain ⟨i, hi, hie⟩ := List.mem_map.1 e
    have hi : i < p.length := by simpa using hi
    have hie : gRem p hands t i = gM p hands t := hie
    have hd := gLeft_down p hands t i
    have hg := (gLeft_ge p hands (t + 1) h i hi).1
    have ha := maxL_ge ((afterOf p i).map (tailF p))
    by_cases hpos : 0 < gLeft p hands t i
    · unfold gRem at hie
      rw [if_pos hpos] at hie
      by_cases hp2 : 0 < gLeft p hands (t + 1) i
      · have := gM_ge (hands := hands) (t := t + 1) hi
        unfold gRem at this
        rw [if_pos hp2] at this
        omega
      · rcases maxL_in ((afterOf p i).map (tailF p)) with ea | ea
        · omega
        · obtain ⟨k, hk, hke⟩ := List.mem_map.1 ea
          obtain ⟨hkn, hki⟩ := mem_after.1 hk
          have hw := gLeft_wait t hki hpos
          have hwk := h.work k hkn
          have := gM_ge (hands := hands) (t := t + 1) hkn
          unfold gRem at this
          rw [hw, if_pos (by omega), ← tailF_eq h hkn, hke] at this
          omega
    · unfold gRem at hie
      rw [if_neg hpos] at hie
      omega

/-- It never grows; a step at which a hand is idle takes one of it. -/
theorem gM_fall {p : PlanL} (h : PlanOk p) (hands t : Nat) (hne : 0 < gM p hands t) : gM p hands (t + 1) ≤ gM p hands t ∧ ((gAt p hands t).length < hands → gM p hands (t + 1) ≤ gM p hands t - 1) := by
  constructor
  · refine gM_le (by omega) fun i hi => ?_
    have hd := gLeft_down p hands t i
    have := gM_ge (hands := hands) (t := t) hi
    unfold gRem at this ⊢
    have ha := maxL_ge ((afterOf p i).map (tailF p))
    split at this <;> split <;> omega
  · intro hf
    refine gM_le (by omega) fun i hi => ?_
    have hd := gLeft_down p hands t i
    have hm := gM_ge (hands := hands) (t := t) hi
    have ha := maxL_ge ((afterOf p i).map (tailF p))
    unfold gRem at hm ⊢
    by_cases hp : 0 < gLeft p hands (t + 1) i
    · rw [if_pos hp]
      rw [if_pos (by omega)] at hm
      by_cases hr : gOk p (gLeft p hands t) i = true
      · have := gAt_full hf hi hr
        have e := gLeft_succ p hands t i
        rw [if_pos this] at e
        omega
      · have : ∃ k ∈ ndOf p i, 0 < gLeft p hands t k.toNat := by
          by_cases e : ∃ k ∈ ndOf p i, 0 < gLeft p hands t k.toNat
          · exact e
          · exact absurd (gOk_iff.2 ⟨by omega, fun k hk => by
              by_cases e2 : 0 < gLeft p hands t k.toNat
              · exact absurd ⟨k, hk, e2⟩ e
              · omega⟩) hr
        obtain ⟨k, hk, hkp⟩ := this
        obtain ⟨hkn, hke⟩ := need_nat h hk
        have hk2 := gM_ge (hands := hands) (t := t) hkn
        unfold gRem at hk2
        rw [if_pos hkp] at hk2
        have hia : i ∈ afterOf p ((k.toNat : Nat) : Int) := mem_after.2 ⟨hi, by rw [hke]; exact hk⟩
        have := maxL_mem (List.mem_map_of_mem (f := tailF p) hia)
        have hte := tailF_eq h hi
        have := gLeft_work p hands t i
        omega
    · rw [if_neg hp]; omega

theorem gBits_work {p : PlanL} (h : PlanOk p) {hands s : Nat} (h1 : 1 ≤ hands) (he : GEnd p hands s) : (gBits p hands s).length = gSum p.length (wkOf p) := by
  have := gBits_len p hands s h
  have : gSum p.length (gLeft p hands s) = 0 := by
    unfold gSum
    exact sum_zero _ _ (fun x hx => by rw [gEnd_zero h h1 he x (by simpa using hx)]; rfl)
  omega

theorem gSum_workF {p : PlanL} (h : PlanOk p) : ((gSum p.length (wkOf p) : Nat) : Int) = workF p := by
  unfold gSum workF
  have : ∀ k, k ≤ p.length → ((((List.range k).map fun i => (wkOf p i).toNat).sum : Nat) : Int) = sumI (wkOf p) k := by
    intro k
    induction k with
    | zero => intro _; rfl
    | succ k ih =>
      intro hk
      rw [List.range_succ, List.map_append, List.sum_append]
      have := ih (by omega)
      have := (h.work k (by omega)).1
      simp only [sumI, List.map_cons, List.map_nil, List.sum_cons, List.sum_nil]
      omega
  exact this _ (Nat.le_refl _)

/-- Bits and idle steps, by the hands. -/
theorem greedy_count {p : PlanL} (h : PlanOk p) {hands : Nat} (h1 : 1 ≤ hands) (t : Nat) (hne : ∀ u, u < t → gAt p hands u ≠ []) :
    ((gBits p hands t).length : Int) ≤ hands * t ∧ (hands : Int) * t ≤ (gBits p hands t).length + (hands - 1) * (spanF p - gM p hands t) ∧ spanF p ≤ t + gM p hands t := by
  induction t with
  | zero => simp [gBits, gM_zero h]
  | succ t ih =>
    obtain ⟨i1, i2, i3⟩ := ih (fun u hu => hne u (by omega))
    have hl : (gAt p hands t).length ≤ hands := gRow_len _ _ _ _
    have hp := List.length_pos_iff.2 (hne t (by omega))
    obtain ⟨i, hi⟩ := List.exists_mem_of_ne_nil _ (hne t (by omega))
    obtain ⟨hin, hgo⟩ := gAt_mem hi
    have hlp := gOk_pos hgo
    have hM : 0 < gM p hands t := by
      have := gM_ge (hands := hands) (t := t) hin
      unfold gRem at this
      rw [if_pos hlp] at this
      have := maxL_ge ((afterOf p i).map (tailF p))
      omega
    have hd := gM_down h hands t
    obtain ⟨hf1, hf2⟩ := gM_fall h hands t hM
    have hb : (gBits p hands (t + 1)).length = (gBits p hands t).length + (gAt p hands t).length := by rw [gBits, List.length_append, rowBits_len]
    rw [hb]
    generalize (gBits p hands t).length = B at *
    generalize (gAt p hands t).length = q at *
    generalize gM p hands t = M at *
    generalize gM p hands (t + 1) = M' at *
    generalize spanF p = sp at *
    have e1 : (hands : Int) * ((t + 1 : Nat) : Int) = hands * t + hands := by rw [Int.natCast_add, Int.mul_add]; simp
    rw [e1]
    refine ⟨by omega, ?_, by omega⟩
    by_cases hq : q < hands
    · have hm := hf2 hq
      have e2 : ((hands : Int) - 1) * (sp - M) + (hands - 1) ≤ (hands - 1) * (sp - M') := by
        have : ((hands : Int) - 1) * (sp - M + 1) ≤ (hands - 1) * (sp - M') := Int.mul_le_mul_of_nonneg_left (by omega) (by omega)
        rw [Int.mul_add] at this
        omega
      omega
    · have e2 : ((hands : Int) - 1) * (sp - M) ≤ (hands - 1) * (sp - M') := Int.mul_le_mul_of_nonneg_left (by omega) (by omega)
      omega

/-- Graham, Brent. -/
theorem greedy_bounds {p : PlanL} (h : PlanOk p) {hands s : Nat} (h1 : 1 ≤ hands) (he : GEnd p hands s) :
    spanF p ≤ s ∧ workF p ≤ hands * s ∧ (hands : Int) * s ≤ workF p + (hands - 1) * spanF p ∧ (s : Int) ≤ (workF p + ((hands : Int) - 1) * spanF p) / hands := by
  obtain ⟨i1, i2, i3⟩ := greedy_count h h1 s he.2
  rw [gM_end h h1 he] at i2 i3
  rw [gBits_work h h1 he, gSum_workF h] at i1 i2
  simp only [Int.sub_zero] at i2
  refine ⟨by omega, i1, i2, ?_⟩
  exact Int.le_ediv_of_mul_le (by omega) (by rw [Int.mul_comm]; exact i2)

theorem greedy_alone {p : PlanL} (h : PlanOk p) {s : Nat} (he : GEnd p 1 s) : (s : Int) = workF p := by
  obtain ⟨_, i1, i2, _⟩ := greedy_bounds h (Nat.le_refl 1) he
  simp at i1 i2
  omega

end Go.Proofs.YtocpmncedlenbaaGreatDoor

namespace Go.Proofs.YtocpmncedlenbaaGreatDoor

/-- Up to step T: who works at each step (A), and what is left of each task before it (L). -/
structure Sched (p : PlanL) (hands T : Nat) (A : Nat → List Nat) (L : Nat → Nat → Int) : Prop where
  zero : ∀ i, i < p.length → L 0 i = wkOf p i
  step : ∀ t, t < T → ∀ i, i < p.length → L (t + 1) i = if i ∈ A t then L t i - 1 else L t i
  mem : ∀ t, t < T → ∀ i ∈ A t, i < p.length ∧ gOk p (L t) i = true
  nodup : ∀ t, t < T → (A t).Nodup
  few : ∀ t, t < T → (A t).length ≤ hands
  full : ∀ t, t < T → (A t).length < hands → ∀ i, i < p.length → gOk p (L t) i = true → i ∈ A t

theorem Sched.less {p : PlanL} {hands T : Nat} {A : Nat → List Nat} {L : Nat → Nat → Int} (h : Sched p hands T A L) {t : Nat} (ht : t ≤ T) : Sched p hands t A L :=
  ⟨h.zero, fun u hu => h.step u (by omega), fun u hu => h.mem u (by omega), fun u hu => h.nodup u (by omega), fun u hu => h.few u (by omega), fun u hu => h.full u (by omega)⟩

theorem Sched.bd {p : PlanL} {hands T : Nat} {A : Nat → List Nat} {L : Nat → Nat → Int} (h : Sched p hands T A L) (hok : PlanOk p) {t : Nat} (ht : t ≤ T) {i : Nat} (hi : i < p.length) : 0 ≤ L t i ∧ L t i ≤ wkOf p i := by
  induction t with
  | zero => have := hok.work i hi; rw [h.zero i hi]; omega
  | succ t ih =>
    have ih := ih (by omega)
    rw [h.step t (by omega) i hi]
    split
    · rename_i hm
      have := gOk_pos (h.mem t (by omega) i hm).2
      omega
    · exact ih
theorem Sched.down {p : PlanL} {hands T : Nat} {A : Nat → List Nat} {L : Nat → Nat → Int} (h : Sched p hands T A L) {t : Nat} (ht : t < T) {i : Nat} (hi : i < p.length) : L (t + 1) i ≤ L t i ∧ L t i - 1 ≤ L (t + 1) i := by
  rw [h.step t ht i hi]; split <;> omega
/-- Who needs one that is not done has not begun. -/
theorem Sched.wait {p : PlanL} {hands T : Nat} {A : Nat → List Nat} {L : Nat → Nat → Int} (h : Sched p hands T A L) (t : Nat) (ht : t < T) {i k : Nat} (hi : i < p.length) (hkn : k < p.length) (hk : (i : Int) ∈ ndOf p k) (hp : 0 < L t i) : L (t + 1) k = wkOf p k := by
  have step : ∀ t, t < T → 0 < L t i → L (t + 1) k = L t k := fun t ht hp => by
    rw [h.step t ht k hkn, if_neg]
    intro hm
    have := gOk_need (h.mem t ht k hm).2 (i : Int) hk
    rw [Int.toNat_natCast] at this
    omega
  induction t with
  | zero => rw [step 0 ht hp]; exact h.zero k hkn
  | succ t ih => rw [step (t + 1) ht hp]; exact ih (by omega) (by have := (h.down (t := t) (by omega) hi).1; omega)

/-- What is left of the way behind a task, that itself is not done. -/
def sRem (p : PlanL) (l : Nat → Int) (i : Nat) : Int := if 0 < l i then l i + maxL ((afterOf p i).map (tailF p)) else 0
def sM (p : PlanL) (l : Nat → Int) : Int := maxL ((List.range p.length).map (sRem p l))
theorem sM_ge {p : PlanL} {l : Nat → Int} {i : Nat} (hi : i < p.length) : sRem p l i ≤ sM p l := maxL_mem (List.mem_map_of_mem (f := sRem p l) (by simpa using hi))
theorem sM_le {p : PlanL} {l : Nat → Int} {b : Int} (hb : 0 ≤ b) (h : ∀ i, i < p.length → sRem p l i ≤ b) : sM p l ≤ b := maxL_le hb (fun y hy => by
  obtain ⟨i, hi, rfl⟩ := List.mem_map.1 hy
  exact h i (by simpa using hi))
theorem sM_nonneg (p : PlanL) (l : Nat → Int) : 0 ≤ sM p l := maxL_ge _

theorem Sched.first {p : PlanL} {hands T : Nat} {A : Nat → List Nat} {L : Nat → Nat → Int} (h : Sched p hands T A L) (hok : PlanOk p) : sM p (L 0) = spanF p := by
  unfold sM spanF
  congr 1
  refine List.map_congr_left fun i hi => ?_
  have hi : i < p.length := by simpa using hi
  have := hok.work i hi
  unfold sRem
  rw [h.zero i hi, if_pos (by omega), tailF_eq hok hi]
theorem sM_end {p : PlanL} {l : Nat → Int} (h : ∀ i, i < p.length → l i = 0) : sM p l = 0 := by
  have := sM_nonneg p l
  have : sM p l ≤ 0 := sM_le (Int.le_refl _) (fun i hi => by unfold sRem; rw [h i hi]; simp)
  omega

theorem Sched.mdown {p : PlanL} {hands T : Nat} {A : Nat → List Nat} {L : Nat → Nat → Int} (h : Sched p hands T A L) (hok : PlanOk p) {t : Nat} (ht : t < T) : sM p (L t) - 1 ≤ sM p (L (t + 1)) := by
  have h0 := sM_nonneg p (L (t + 1))
  rcases maxL_in ((List.range p.length).map (sRem p (L t))) with e | e
  · have : sM p (L t) = 0 := e
    omega
  · obtain ⟨i, hi, hie⟩ := List.mem_map.1 e
    have hi : i < p.length := by simpa using hi
    have hie : sRem p (L t) i = sM p (L t) := hie
    have hd := h.down ht hi
    have hg := (h.bd hok (t := t + 1) (by omega) hi).1
    have ha := maxL_ge ((afterOf p i).map (tailF p))
    by_cases hpos : 0 < L t i
    · unfold sRem at hie
      rw [if_pos hpos] at hie
      by_cases hp2 : 0 < L (t + 1) i
      · have := sM_ge (l := L (t + 1)) hi
        unfold sRem at this
        rw [if_pos hp2] at this
        omega
      · rcases maxL_in ((afterOf p i).map (tailF p)) with ea | ea
        · omega
        · obtain ⟨k, hk, hke⟩ := List.mem_map.1 ea
          obtain ⟨hkn, hki⟩ := mem_after.1 hk
          have hw := h.wait t ht hi hkn hki hpos
          have hwk := hok.work k hkn
          have := sM_ge (l := L (t + 1)) hkn
          unfold sRem at this
          rw [hw, if_pos (by omega), ← tailF_eq hok hkn, hke] at this
          omega
    · unfold sRem at hie
      rw [if_neg hpos] at hie
      omega

theorem Sched.mfall {p : PlanL} {hands T : Nat} {A : Nat → List Nat} {L : Nat → Nat → Int} (h : Sched p hands T A L) (hok : PlanOk p) {t : Nat} (ht : t < T) (hne : 0 < sM p (L t)) :
    sM p (L (t + 1)) ≤ sM p (L t) ∧ ((A t).length < hands → sM p (L (t + 1)) ≤ sM p (L t) - 1) := by
  constructor
  · refine sM_le (by omega) fun i hi => ?_
    have hd := h.down ht hi
    have := sM_ge (l := L t) hi
    unfold sRem at this ⊢
    have ha := maxL_ge ((afterOf p i).map (tailF p))
    split at this <;> split <;> omega
  · intro hf
    refine sM_le (by omega) fun i hi => ?_
    have hd := h.down ht hi
    have hm := sM_ge (l := L t) hi
    have ha := maxL_ge ((afterOf p i).map (tailF p))
    unfold sRem at hm ⊢
    by_cases hp : 0 < L (t + 1) i
    · rw [if_pos hp]
      rw [if_pos (by omega)] at hm
      by_cases hr : gOk p (L t) i = true
      · have := h.full t ht hf i hi hr
        have e := h.step t ht i hi
        rw [if_pos this] at e
        omega
      · have : ∃ k ∈ ndOf p i, 0 < L t k.toNat := by
          by_cases e : ∃ k ∈ ndOf p i, 0 < L t k.toNat
          · exact e
          · exact absurd (gOk_iff.2 ⟨by omega, fun k hk => by
              by_cases e2 : 0 < L t k.toNat
              · exact absurd ⟨k, hk, e2⟩ e
              · omega⟩) hr
        obtain ⟨k, hk, hkp⟩ := this
        obtain ⟨hkn, hke⟩ := need_nat hok hk
        have hk2 := sM_ge (l := L t) hkn
        unfold sRem at hk2
        rw [if_pos hkp] at hk2
        have hia : i ∈ afterOf p ((k.toNat : Nat) : Int) := mem_after.2 ⟨hi, by rw [hke]; exact hk⟩
        have := maxL_mem (List.mem_map_of_mem (f := tailF p) hia)
        have hte := tailF_eq hok hi
        have := (h.bd hok (t := t) (by omega) hi).2
        omega
    · rw [if_neg hp]; omega

theorem Sched.sum {p : PlanL} {hands T : Nat} {A : Nat → List Nat} {L : Nat → Nat → Int} (h : Sched p hands T A L) {t : Nat} (ht : t < T) : gSum p.length (L (t + 1)) + (A t).length = gSum p.length (L t) := by
  unfold gSum
  rw [← sum_ind p.length (A t) (h.nodup t ht) (fun x hx => (h.mem t ht x hx).1), ← sum_map_add]
  congr 1
  refine List.map_congr_left fun i hi => ?_
  have hi' : i < p.length := by simpa using hi
  rw [h.step t ht i hi']
  by_cases hm : i ∈ A t
  · have := gOk_pos (h.mem t ht i hm).2
    simp only [if_pos hm]; omega
  · simp only [if_neg hm, Nat.add_zero]
theorem Sched.sum0 {p : PlanL} {hands T : Nat} {A : Nat → List Nat} {L : Nat → Nat → Int} (h : Sched p hands T A L) : gSum p.length (L 0) = gSum p.length (wkOf p) := by
  unfold gSum
  congr 1
  exact List.map_congr_left fun i hi => by rw [h.zero i (by simpa using hi)]

/-- Each step takes some work. -/
theorem Sched.time {p : PlanL} {hands T : Nat} {A : Nat → List Nat} {L : Nat → Nat → Int} (h : Sched p hands T A L) (hne : ∀ u, u < T → A u ≠ []) {t : Nat} (ht : t ≤ T) : t + gSum p.length (L t) ≤ gSum p.length (wkOf p) := by
  induction t with
  | zero => rw [h.sum0]; omega
  | succ t ih =>
    have := h.sum (t := t) (by omega)
    have := List.length_pos_iff.2 (hne t (by omega))
    have := ih (by omega)
    omega

theorem Sched.count {p : PlanL} {hands T : Nat} {A : Nat → List Nat} {L : Nat → Nat → Int} (h : Sched p hands T A L) (hok : PlanOk p) (h1 : 1 ≤ hands) (hne : ∀ u, u < T → A u ≠ []) {t : Nat} (ht : t ≤ T) :
    (gSum p.length (wkOf p) : Int) - gSum p.length (L t) ≤ hands * t ∧ (hands : Int) * t ≤ ((gSum p.length (wkOf p) : Int) - gSum p.length (L t)) + (hands - 1) * (spanF p - sM p (L t)) ∧ spanF p ≤ t + sM p (L t) := by
  induction t with
  | zero => rw [h.sum0, h.first hok]; simp
  | succ t ih =>
    obtain ⟨i1, i2, i3⟩ := ih (by omega)
    have hl := h.few t (by omega)
    have hp := List.length_pos_iff.2 (hne t (by omega))
    obtain ⟨i, hi⟩ := List.exists_mem_of_ne_nil _ (hne t (by omega))
    obtain ⟨hin, hgo⟩ := h.mem t (by omega) i hi
    have hlp := gOk_pos hgo
    have hM : 0 < sM p (L t) := by
      have := sM_ge (l := L t) hin
      unfold sRem at this
      rw [if_pos hlp] at this
      have := maxL_ge ((afterOf p i).map (tailF p))
      omega
    have hd := h.mdown hok (t := t) (by omega)
    obtain ⟨hf1, hf2⟩ := h.mfall hok (t := t) (by omega) hM
    have hb := h.sum (t := t) (by omega)
    generalize gSum p.length (wkOf p) = W at *
    generalize gSum p.length (L t) = B at *
    generalize gSum p.length (L (t + 1)) = B' at *
    generalize hqq : (A t).length = q at *
    have hb : ((B' : Int)) + q = B := by omega
    generalize sM p (L t) = M at *
    generalize sM p (L (t + 1)) = M' at *
    generalize spanF p = sp at *
    have e1 : (hands : Int) * ((t + 1 : Nat) : Int) = hands * t + hands := by rw [Int.natCast_add, Int.mul_add]; simp
    rw [e1]
    refine ⟨by omega, ?_, by omega⟩
    by_cases hq : q < hands
    · have hm := hf2 hq
      have e2 : ((hands : Int) - 1) * (sp - M) + (hands - 1) ≤ (hands - 1) * (sp - M') := by
        have : ((hands : Int) - 1) * (sp - M + 1) ≤ (hands - 1) * (sp - M') := Int.mul_le_mul_of_nonneg_left (by omega) (by omega)
        rw [Int.mul_add] at this
        omega
      omega
    · have e2 : ((hands : Int) - 1) * (sp - M) ≤ (hands - 1) * (sp - M') := Int.mul_le_mul_of_nonneg_left (by omega) (by omega)
      omega

/-- While one is not done somebody works. -/
theorem Sched.busy {p : PlanL} {hands T : Nat} {A : Nat → List Nat} {L : Nat → Nat → Int} (h : Sched p hands T A L) (hok : PlanOk p) (h1 : 1 ≤ hands) {t : Nat} (ht : t < T) {i : Nat} (hi : i < p.length) (hp : 0 < L t i) : A t ≠ [] := by
  intro he
  obtain ⟨j, hj, hr⟩ := exists_ready hok (fun j => decide (L t j ≤ 0)) ⟨i, hi, by simp; omega⟩
  simp only [readyB, Bool.and_eq_true, Bool.not_eq_true', decide_eq_false_iff_not, List.all_eq_true, decide_eq_true_eq] at hr
  have hgo : gOk p (L t) j = true := gOk_iff.2 ⟨by omega, fun k hk => hr.2 k hk⟩
  have := h.full t ht (by rw [he]; exact h1) j hj hgo
  rw [he] at this
  cases this

/-- Graham. -/
theorem Sched.bounds {p : PlanL} {hands T : Nat} {A : Nat → List Nat} {L : Nat → Nat → Int} (h : Sched p hands T A L) (hok : PlanOk p) (h1 : 1 ≤ hands) (hne : ∀ u, u < T → A u ≠ []) (he : ∀ i, i < p.length → L T i = 0) :
    spanF p ≤ T ∧ workF p ≤ hands * T ∧ (hands : Int) * T ≤ workF p + (hands - 1) * spanF p := by
  obtain ⟨i1, i2, i3⟩ := h.count hok h1 hne (Nat.le_refl T)
  rw [sM_end he] at i2 i3
  have hz : gSum p.length (L T) = 0 := by
    unfold gSum
    exact sum_zero _ _ (fun x hx => by rw [he x (by simpa using hx)]; rfl)
  rw [hz, gSum_workF hok] at i1 i2
  simp only [Int.sub_zero] at i2
  refine ⟨by omega, by simpa using i1, by simpa using i2⟩

end Go.Proofs.YtocpmncedlenbaaGreatDoor
