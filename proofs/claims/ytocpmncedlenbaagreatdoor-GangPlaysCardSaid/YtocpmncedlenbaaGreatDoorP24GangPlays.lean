/-
  A gang ends: in so many rounds as there is work, and tasks, all are done. No program is named here.
-/
import Derived.Test.YtocpmncedlenbaaGreatDoorP13GangPlays
import Derived.Test.YtocpmncedlenbaaGreatDoorP23GangPlays
namespace Go.Proofs.YtocpmncedlenbaaGreatDoor

/-- What of a task a worker has done, and one more. -/
def gUsed (p : PlanL) (k : Wk) : Int := if 0 ≤ k.task then wkOf p k.task.toNat + 1 - k.left else 0
def usedS (p : PlanL) : Nat → (Nat → Wk) → Int
  | 0, _ => 0
  | m + 1, f => usedS p m f + gUsed p (f m)
def openI (p : PlanL) (D : Nat → Bool) (i : Nat) : Int := if D i then 0 else wkOf p i + 1
/-- What is still to be done. -/
def gPhi (p : PlanL) (m : Nat) (s : GSt) : Int := sumI (openI p s.done) p.length - usedS p m s.ws

theorem used_up (p : PlanL) (m : Nat) (f : Nat → Wk) (h : Nat) (k : Wk) (hm : h < m) : usedS p m (upW f h k) + gUsed p (f h) = usedS p m f + gUsed p k := by
  have key : ∀ m, (h < m → usedS p m (upW f h k) + gUsed p (f h) = usedS p m f + gUsed p k) ∧ (m ≤ h → usedS p m (upW f h k) = usedS p m f) := by
    intro m
    induction m with
    | zero => exact ⟨fun h => by omega, fun _ => rfl⟩
    | succ m ih =>
      refine ⟨fun hl => ?_, fun hl => ?_⟩
      · simp only [usedS]
        by_cases e : h = m
        · subst e
          rw [upW_same, ih.2 (Nat.le_refl _)]
          omega
        · have := ih.1 (by omega)
          rw [upW_other _ _ _ _ (Ne.symm e)]
          omega
      · simp only [usedS]
        rw [ih.2 (by omega), upW_other _ _ _ _ (by omega)]
  exact (key m).1 hm

theorem open_up (p : PlanL) (D : Nat → Bool) (i : Nat) (hi : i < p.length) (hD : D i = false) : sumI (openI p D) p.length = sumI (openI p (upB D i)) p.length + wkOf p i + 1 := by
  have key : ∀ n, (i < n → sumI (openI p D) n = sumI (openI p (upB D i)) n + wkOf p i + 1) ∧ (n ≤ i → sumI (openI p D) n = sumI (openI p (upB D i)) n) := by
    intro n
    induction n with
    | zero => exact ⟨fun h => by omega, fun _ => rfl⟩
    | succ n ih =>
      have hn : ∀ j, j ≠ i → openI p (upB D i) j = openI p D j := fun j hj => by unfold openI upB; rw [if_neg hj]
      refine ⟨fun hl => ?_, fun hl => ?_⟩
      · simp only [sumI]
        by_cases e : i = n
        · subst e
          rw [ih.2 (Nat.le_refl _)]
          have e1 : openI p D i = wkOf p i + 1 := by unfold openI; rw [hD]; rfl
          have e2 : openI p (upB D i) i = 0 := by unfold openI upB; rw [if_pos rfl]; rfl
          omega
        · have := ih.1 (by omega)
          have := hn n (Ne.symm e)
          omega
      · simp only [sumI]
        have := hn n (by omega)
        rw [ih.2 (by omega), this]
  exact (key p.length).1 hi

theorem used_none (p : PlanL) {k : Wk} (h : k.task < 0) : gUsed p k = 0 := by unfold gUsed; rw [if_neg (by omega)]
theorem used_take (p : PlanL) (k : Wk) {x : Int} (h : 0 ≤ x) : gUsed p (gTake p k x) = 1 := by
  unfold gUsed gTake
  simp only
  rw [if_pos h]
  omega

/-- A step gets on, or its hand goes to sleep for want of work. -/
theorem step_phi {p : PlanL} {room m : Nat} {s : GSt} (H : GInv p room m s) {h : Nat} (pick : Nat) (hm : h < m) (hr : (h : Int) ∉ s.row) :
    (gPhi p m (gStep p room m s h pick).1 + 1 = gPhi p m s ∧ (h : Int) ∉ (gStep p room m s h pick).1.row) ∨ ((gStep p room m s h pick).1 = (gSleep s h).1 ∧ s.spill = [] ∧ ownW (s.ws h) = []) := by
  unfold gStep
  rw [if_neg hr]
  by_cases ht : 0 ≤ (s.ws h).task
  · rw [if_pos ht]
    left
    obtain ⟨l1, l2⟩ := H.left h hm ht
    unfold gWork
    by_cases hl : 1 < (s.ws h).left
    · rw [if_pos hl]
      refine ⟨?_, hr⟩
      unfold gPhi
      simp only
      have := used_up p m s.ws h ⟨(s.ws h).near, (s.ws h).ring, (s.ws h).task, (s.ws h).left - 1⟩ hm
      have e1 : gUsed p (s.ws h) = wkOf p (s.ws h).task.toNat + 1 - (s.ws h).left := by unfold gUsed; rw [if_pos ht]
      have e2 : gUsed p ⟨(s.ws h).near, (s.ws h).ring, (s.ws h).task, (s.ws h).left - 1⟩ = wkOf p (s.ws h).task.toNat + 1 - ((s.ws h).left - 1) := by unfold gUsed; simp only; rw [if_pos ht]
      omega
    · rw [if_neg hl]
      obtain ⟨i, hi, hir⟩ := H.task hm ht
      obtain ⟨i1, i2, i3⟩ := readyL_mem.1 hir
      refine ⟨?_, fun hx => hr (List.mem_of_mem_drop hx)⟩
      unfold gPhi
      simp only
      have e0 : (s.ws h).task.toNat = i := by rw [hi]; rfl
      rw [e0]
      have e1 : gUsed p (s.ws h) = wkOf p i + 1 - (s.ws h).left := by unfold gUsed; rw [if_pos ht, e0]
      have e2 : gUsed p (putAll room ⟨(s.ws h).near, (s.ws h).ring, -1, (s.ws h).left - 1⟩ (natL (newL p s.done i))).1 = 0 := used_none p (by rw [(putAll_keep room _ _).1]; show (-1 : Int) < 0; omega)
      have e3 := used_up p m s.ws h (putAll room ⟨(s.ws h).near, (s.ws h).ring, -1, (s.ws h).left - 1⟩ (natL (newL p s.done i))).1 hm
      have e4 := open_up p s.done i i1 i2
      omega
  · rw [if_neg ht]
    have ht' : (s.ws h).task < 0 := by omega
    have take : ∀ (sp : List Int) (k : Wk) (x : Int), 0 ≤ x → gPhi p m ⟨s.done, sp, s.row, upW s.ws h (gTake p k x)⟩ + 1 = gPhi p m s := by
      intro sp k x hx
      unfold gPhi
      simp only
      have e1 := used_up p m s.ws h (gTake p k x) hm
      have e2 := used_none p ht'
      have e3 := used_take p k hx
      omega
    unfold gFind
    by_cases hn : 0 ≤ (s.ws h).near
    · rw [if_pos hn]
      exact .inl ⟨take _ _ _ hn, hr⟩
    · rw [if_neg hn]
      by_cases hg : (s.ws h).ring ≠ []
      · rw [if_pos hg]
        obtain ⟨i, hi, _⟩ := H.mem (x := (s.ws h).ring.getLastD 0) (held_own hm (by unfold ownW; exact List.mem_append.2 (.inl (List.mem_append.2 (.inl (getLastD_mem _ hg))))))
        exact .inl ⟨take _ _ _ (by omega), hr⟩
      · rw [if_neg hg]
        have hown : ownW (s.ws h) = [] := by
          have : (s.ws h).ring = [] := by simpa using hg
          unfold ownW
          rw [this, nearL_neg (by omega), nearL_neg ht']
          rfl
        split
        · rename_i x rest hs
          obtain ⟨i, hi, _⟩ := H.mem (x := x) (by unfold heldL; rw [hs]; simp)
          exact .inl ⟨take _ _ _ (by omega), hr⟩
        · rename_i hs
          split
          · exact .inr ⟨rfl, hs, hown⟩
          · rename_i he
            unfold gRob
            split
            · exact .inr ⟨rfl, hs, hown⟩
            · rename_i x xs hl
              left
              have hom : pick % m < m := Nat.mod_lt _ (by omega)
              have hxr : x ∈ (s.ws (pick % m)).ring := by
                have : x ∈ x :: xs := by simp
                rw [← hl] at this
                exact List.mem_of_mem_take this
              obtain ⟨i, hi, _⟩ := H.mem (x := x) (held_own hom (by unfold ownW; simp [hxr]))
              refine ⟨?_, hr⟩
              unfold gPhi
              simp only
              have e1 := used_up p m s.ws (pick % m) ⟨(s.ws (pick % m)).near, (s.ws (pick % m)).ring.drop (halfOf (s.ws (pick % m)).ring), (s.ws (pick % m)).task, (s.ws (pick % m)).left⟩ hom
              have e2 := used_up p m (upW s.ws (pick % m) ⟨(s.ws (pick % m)).near, (s.ws (pick % m)).ring.drop (halfOf (s.ws (pick % m)).ring), (s.ws (pick % m)).task, (s.ws (pick % m)).left⟩) h (gTake p (putAll room (s.ws h) xs).1 x) hm
              rw [upW_other _ _ _ _ (Ne.symm he)] at e2
              have e3 := used_none p ht'
              have e4 := used_take p (putAll room (s.ws h) xs).1 (x := x) (by omega)
              have e5 : gUsed p ⟨(s.ws (pick % m)).near, (s.ws (pick % m)).ring.drop (halfOf (s.ws (pick % m)).ring), (s.ws (pick % m)).task, (s.ws (pick % m)).left⟩ = gUsed p (s.ws (pick % m)) := rfl
              omega

/-- While something lies in the spill a hand is awake. -/
def Watch (m : Nat) (s : GSt) : Prop := s.spill ≠ [] → ∃ h, h < m ∧ (h : Int) ∉ s.row
theorem step_watch {p : PlanL} {room m : Nat} {s : GSt} (H : GInv p room m s) (W : Watch m s) {h : Nat} (pick : Nat) (hm : h < m) : Watch m (gStep p room m s h pick).1 := by
  by_cases hr : (h : Int) ∈ s.row
  · unfold gStep; rw [if_pos hr]; exact W
  · rcases step_phi H pick hm hr with ⟨_, h2⟩ | ⟨h1, h2, _⟩
    · exact fun _ => ⟨h, hm, h2⟩
    · rw [h1]; exact fun hs => absurd h2 hs
theorem new_watch (p : PlanL) (m : Nat) (h1 : 1 ≤ m) : Watch m (gNew p) := fun _ => ⟨0, by omega, fun h => nomatch h⟩

/-- So many hands have had their turn in a round. -/
def roundN (p : PlanL) (room m r : Nat) (s : GSt) : Nat → GSt
  | 0 => s
  | h + 1 => (gStep p room m (roundN p room m r s h) h r).1

theorem round_keeps {p : PlanL} (hok : PlanOk p) {room m : Nat} (h1 : 1 ≤ room) {s : GSt} (H : GInv p room m s) (W : Watch m s) (r : Nat) (k : Nat) (hk : k ≤ m) : GInv p room m (roundN p room m r s k) ∧ Watch m (roundN p room m r s k) := by
  induction k with
  | zero => exact ⟨H, W⟩
  | succ k ih =>
    obtain ⟨H', W'⟩ := ih (by omega)
    exact ⟨gStep_inv hok h1 H' r (by omega), step_watch H' W' r (by omega)⟩

theorem round_phi {p : PlanL} (hok : PlanOk p) {room m : Nat} (h1 : 1 ≤ room) {s : GSt} (H : GInv p room m s) (W : Watch m s) (r : Nat) (k : Nat) (hk : k ≤ m) :
    gPhi p m (roundN p room m r s k) + 1 ≤ gPhi p m s ∨ (let t := roundN p room m r s k; t.done = s.done ∧ t.spill = s.spill ∧ t.ws = s.ws ∧ (∀ j : Nat, k ≤ j → ((j : Int) ∈ t.row ↔ (j : Int) ∈ s.row)) ∧
      ∀ j : Nat, j < k → (j : Int) ∉ s.row → ownW (s.ws j) = [] ∧ s.spill = []) := by
  induction k with
  | zero => exact .inr ⟨rfl, rfl, rfl, fun _ _ => Iff.rfl, fun j hj => by omega⟩
  | succ k ih =>
    have ih := ih (by omega)
    obtain ⟨H', W'⟩ := round_keeps hok h1 H W r k (by omega)
    have e : roundN p room m r s (k + 1) = (gStep p room m (roundN p room m r s k) k r).1 := rfl
    rw [e]
    generalize roundN p room m r s k = t at *
    have hkm : k < m := by omega
    by_cases hr : (k : Int) ∈ t.row
    · have e2 : (gStep p room m t k r).1 = t := by unfold gStep; rw [if_pos hr]
      rw [e2]
      rcases ih with ih | ⟨i1, i2, i3, i4, i5⟩
      · exact .inl ih
      · refine .inr ⟨i1, i2, i3, fun j hj => i4 j (by omega), fun j hj hjr => ?_⟩
        by_cases ej : j = k
        · subst ej; exact absurd ((i4 j (Nat.le_refl _)).1 hr) hjr
        · exact i5 j (by omega) hjr
    · rcases step_phi H' r hkm hr with ⟨h2, _⟩ | ⟨h2, h3, h4⟩
      · left
        rcases ih with ih | ⟨i1, i2, i3, i4, i5⟩
        · omega
        · have : gPhi p m t = gPhi p m s := by unfold gPhi; rw [i1, i3]
          omega
      · rw [h2]
        have e3 : gPhi p m (gSleep t k).1 = gPhi p m t := rfl
        rcases ih with ih | ⟨i1, i2, i3, i4, i5⟩
        · exact .inl (by rw [e3]; exact ih)
        · refine .inr ⟨i1, i2, i3, fun j hj => ?_, fun j hj hjr => ?_⟩
          · show (j : Int) ∈ t.row ++ [(k : Int)] ↔ _
            rw [List.mem_append, List.mem_singleton, i4 j (by omega)]
            constructor
            · rintro (h | h)
              · exact h
              · omega
            · exact .inl
          · by_cases ej : j = k
            · subst ej; exact ⟨by rw [← i3]; exact h4, by rw [← i2]; exact h3⟩
            · exact i5 j (by omega) hjr

/-- A round gets on while not all are done. -/
theorem round_on {p : PlanL} (hok : PlanOk p) {room m : Nat} (h1 : 1 ≤ room) {s : GSt} (H : GInv p room m s) (W : Watch m s) (r : Nat) (h0 : 0 < leftN p s.done) : gPhi p m (roundN p room m r s m) + 1 ≤ gPhi p m s := by
  rcases round_phi hok h1 H W r m (Nat.le_refl _) with h | ⟨_, _, _, _, i5⟩
  · exact h
  · exfalso
    have hne := ready_ne hok h0
    have hl := H.held.length_eq
    rw [natL_len] at hl
    have hx : ∃ x, x ∈ heldL m s := List.exists_mem_of_length_pos (by omega)
    obtain ⟨x, hx⟩ := hx
    unfold heldL at hx
    rcases List.mem_append.1 hx with hx | hx
    · have hsp : s.spill ≠ [] := fun e => by rw [e] at hx; cases hx
      obtain ⟨j, hj, hjr⟩ := W hsp
      exact hsp (i5 j hj hjr).2
    · obtain ⟨j, hj, hxj⟩ := workL_mem.1 hx
      have hne : ownW (s.ws j) ≠ [] := fun e => by rw [e] at hxj; cases hxj
      exact hne (i5 j hj (H.awake hne)).1

/-- The work of tasks. -/
def sumW (p : PlanL) (l : List Int) : Nat := (l.map fun x => (wkOf p x.toNat).toNat).sum
theorem sumW_app (p : PlanL) (a b : List Int) : sumW p (a ++ b) = sumW p a + sumW p b := by simp [sumW]
theorem used_le {p : PlanL} {k : Wk} (hl : 0 ≤ k.task → 1 ≤ k.left) : gUsed p k ≤ (sumW p (ownW k) : Int) := by
  unfold gUsed
  by_cases h : 0 ≤ k.task
  · rw [if_pos h]
    have e : sumW p (ownW k) = sumW p (k.ring ++ nearL k.near) + (wkOf p k.task.toNat).toNat := by
      unfold ownW
      rw [sumW_app, nearL_pos h]
      simp [sumW]
    have := hl h
    omega
  · rw [if_neg h]; omega
theorem usedS_le {p : PlanL} {m : Nat} {f : Nat → Wk} (hl : ∀ h, h < m → 0 ≤ (f h).task → 1 ≤ (f h).left) : usedS p m f ≤ (sumW p (workL m f) : Int) := by
  induction m with
  | zero => show (0 : Int) ≤ _; omega
  | succ m ih =>
    have h1 := ih (fun h hh => hl h (by omega))
    have h2 := used_le (p := p) (hl m (by omega))
    simp only [usedS, workL, sumW_app]
    omega
theorem open_ge {p : PlanL} (hok : PlanOk p) (D : Nat → Bool) (k : Nat) (hk : k ≤ p.length) : (sumW p (natL ((List.range k).filter (readyB p D))) : Int) + ((List.range k).countP (fun i => !D i) : Nat) ≤ sumI (openI p D) k := by
  induction k with
  | zero => simp [sumW, natL, sumI]
  | succ k ih =>
    have h1 := ih (by omega)
    have h2 := (hok.work k (by omega)).1
    rw [List.range_succ, List.filter_append, natL_app, sumW_app, List.countP_append]
    simp only [sumI]
    have e1 : sumW p (natL ([k].filter (readyB p D))) = if readyB p D k then (wkOf p k).toNat else 0 := by
      by_cases h : readyB p D k = true
      · rw [if_pos h]; simp [List.filter, h, natL, sumW]
      · rw [if_neg h]; simp [List.filter, h, natL, sumW]
    have e2 : [k].countP (fun i => !D i) = if D k then 0 else 1 := by cases h : D k <;> simp [h]
    have e3 : openI p D k = if D k = true then 0 else wkOf p k + 1 := rfl
    rw [e1, e2, e3]
    cases h : D k with
    | true =>
      have : readyB p D k = false := by unfold readyB; rw [h]; rfl
      rw [this]
      simp only [Bool.false_eq_true, if_false, if_true]
      omega
    | false =>
      simp only [Bool.false_eq_true, if_false]
      split <;> omega
theorem phi_ge {p : PlanL} (hok : PlanOk p) {room m : Nat} {s : GSt} (H : GInv p room m s) : (leftN p s.done : Int) ≤ gPhi p m s := by
  have h1 := usedS_le (p := p) (m := m) (f := s.ws) (fun h hh ht => (H.left h hh ht).1)
  have h2 := open_ge hok s.done p.length (Nat.le_refl _)
  have h3 : sumW p (heldL m s) = sumW p (natL (readyL p s.done)) := (H.held.map _).sum_nat
  unfold heldL at h3
  rw [sumW_app] at h3
  unfold gPhi leftN
  have h4 : readyL p s.done = (List.range p.length).filter (readyB p s.done) := rfl
  rw [h4] at h3
  omega
theorem phi_le {p : PlanL} (hok : PlanOk p) {room m : Nat} {s : GSt} (H : GInv p room m s) : gPhi p m s ≤ workF p + p.length := by
  have h1 : 0 ≤ usedS p m s.ws := by
    have key : ∀ k, k ≤ m → 0 ≤ usedS p k s.ws := by
      intro k
      induction k with
      | zero => intro _; exact Int.le_refl _
      | succ k ih =>
        intro hk
        have := ih (by omega)
        have h2 : 0 ≤ gUsed p (s.ws k) := by
          unfold gUsed
          by_cases ht : 0 ≤ (s.ws k).task
          · rw [if_pos ht]; have := H.left k (by omega) ht; omega
          · rw [if_neg ht]; exact Int.le_refl _
        simp only [usedS]
        omega
    exact key m (Nat.le_refl _)
  have h2 : ∀ k, k ≤ p.length → sumI (openI p s.done) k ≤ sumI (wkOf p) k + (k : Int) := by
    intro k
    induction k with
    | zero => intro _; simp [sumI]
    | succ k ih =>
      intro hk
      have := ih (by omega)
      have := (hok.work k (by omega)).1
      simp only [sumI]
      have e3 : openI p s.done k = if s.done k = true then 0 else wkOf p k + 1 := rfl
      rw [e3]
      split <;> omega
  have := h2 p.length (Nat.le_refl _)
  unfold gPhi workF
  omega

/-- How it stands when so many rounds are over. -/
def Late (p : PlanL) (m r : Nat) (s : GSt) : Prop := leftN p s.done = 0 ∨ gPhi p m s + r ≤ workF p + p.length
theorem late_start {p : PlanL} (hok : PlanOk p) {room m : Nat} {s : GSt} (H : GInv p room m s) : Late p m 0 s := .inr (by have := phi_le hok H; omega)
theorem late_round {p : PlanL} (hok : PlanOk p) {room m r : Nat} (h1 : 1 ≤ room) {s : GSt} (H : GInv p room m s) (W : Watch m s) (h : Late p m r s) : Late p m (r + 1) (roundN p room m r s m) := by
  by_cases h0 : leftN p s.done = 0
  · left
    have key : ∀ k, k ≤ m → leftN p (roundN p room m r s k).done = 0 := by
      intro k
      induction k with
      | zero => intro _; exact h0
      | succ k ih =>
        intro hk
        have ih := ih (by omega)
        obtain ⟨H', _⟩ := round_keeps hok h1 H W r k (by omega)
        have e : roundN p room m r s (k + 1) = (gStep p room m (roundN p room m r s k) k r).1 := rfl
        rw [e]
        generalize roundN p room m r s k = t at *
        have hheld : heldL m t = [] := by
          have := H'.held.length_eq
          rw [ready_none ih] at this
          exact List.eq_nil_of_length_eq_zero (by simpa [natL] using this)
        have hown : ownW (t.ws k) = [] := by
          cases e : ownW (t.ws k) with
          | nil => rfl
          | cons a l =>
            have := held_own (s := t) (show k < m by omega) (x := a) (by rw [e]; simp)
            rw [hheld] at this
            cases this
        have htask : (t.ws k).task < 0 := by
          by_cases h : 0 ≤ (t.ws k).task
          · have : (t.ws k).task ∈ ownW (t.ws k) := by unfold ownW; rw [nearL_pos h]; simp
            rw [hown] at this; cases this
          · omega
        unfold gStep
        split
        · exact ih
        · rw [if_neg (by omega)]
          have key : (gFind p room m t k r).1.done = t.done := by
            unfold gFind gRob gSleep
            split
            · rfl
            · split
              · rfl
              · split
                · rfl
                · split
                  · rfl
                  · split <;> rfl
          rw [key]; exact ih
    exact key m (Nat.le_refl _)
  · have h2 := round_on hok h1 H W r (by omega)
    rcases h with h | h
    · exact absurd h h0
    · exact .inr (by omega)
theorem late_end {p : PlanL} (hok : PlanOk p) {room m r : Nat} {s : GSt} (H : GInv p room m s) (h : Late p m r s) (hr : workF p + p.length ≤ r) : leftN p s.done = 0 := by
  rcases h with h | h
  · exact h
  · have := phi_ge hok H
    omega

end Go.Proofs.YtocpmncedlenbaaGreatDoor
