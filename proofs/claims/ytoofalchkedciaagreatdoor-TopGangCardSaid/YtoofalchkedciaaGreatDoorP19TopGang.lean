/-
  What a gang does may be so: its deeds, told to trace.
  How many deeds there are of each kind, of deeds that may have been.
  A gang's rounds, whichever hand begins, whomever they rob.
-/
import Derived.Test.YtoofalchkedciaaGreatDoorP11TopGang
import Derived.Test.YtoofalchkedciaaGreatDoorP18TopGang
import Derived.Test.YtoofalchkedciaaGreatDoorP12TopGang
namespace Go.Proofs.YtoofalchkedciaaGreatDoor

/-- The state that deeds tell, and a gang's. -/
structure RelT (m : Nat) (D : Nat → Bool) (row : List Int) (tk : Nat → Int) (t : TSt) : Prop where
  has : ∀ h, h < m → t.has h = if 0 ≤ tk h then some (tk h).toNat else none
  had : ∀ i : Nat, t.had i = true → D i = true ∨ ∃ h, h < m ∧ tk h = (i : Int)
  fin : ∀ i, t.fin i = D i
  slp : ∀ h : Nat, t.slp h = decide ((h : Int) ∈ row)

def gTk (ws : Nat → Wk) : Nat → Int := fun h => (ws h).task
def updT (tk : Nat → Int) (h : Nat) (x : Int) : Nat → Int := fun i => if i = h then x else tk i
theorem RelT.congr {m : Nat} {D : Nat → Bool} {row : List Int} {tk tk' : Nat → Int} {t : TSt} (h : RelT m D row tk t) (e : ∀ j, tk j = tk' j) : RelT m D row tk' t := by rw [← funext e]; exact h
theorem gTk_up (ws : Nat → Wk) (h : Nat) (k : Wk) (j : Nat) : gTk (upW ws h k) j = updT (gTk ws) h k.task j := by
  unfold gTk updT upW
  split <;> rfl

/-- Deeds that lead from t to t'. -/
def Leads (p : PlanL) (m : Nat) (t : TSt) (ds : List Dd) (t' : TSt) : Prop := (∀ L, runF p m t (ds ++ L) = runF p m t' L) ∧ ∀ d ∈ ds, ddFault d = 0
theorem Leads.nil (p : PlanL) (m : Nat) (t : TSt) : Leads p m t [] t := ⟨fun _ => rfl, by simp⟩
theorem Leads.cons {p : PlanL} {m : Nat} {t t1 t' : TSt} {d : Dd} {ds : List Dd} (h0 : ddFault d = 0) (h1 : ddOut p.length m d = false) (h2 : dF p t d = 0) (h3 : dT t d = t1) (h : Leads p m t1 ds t') : Leads p m t (d :: ds) t' := by
  refine ⟨fun L => ?_, fun x hx => ?_⟩
  · rw [List.cons_append]
    show (if ddOut p.length m d = true then (1 : Int) else if dF p t d = 0 then runF p m (dT t d) (ds ++ L) else dF p t d) = _
    rw [if_neg (by rw [h1]; simp), if_pos h2, h3]
    exact h.1 L
  · rcases List.mem_cons.1 hx with rfl | hx
    · exact h0
    · exact h.2 x hx
theorem Leads.trans {p : PlanL} {m : Nat} {t t1 t' : TSt} {ds ds' : List Dd} (h : Leads p m t ds t1) (k : Leads p m t1 ds' t') : Leads p m t (ds ++ ds') t' :=
  ⟨fun L => by rw [List.append_assoc, h.1, k.1], fun x hx => by rcases List.mem_append.1 hx with hx | hx; exact h.2 x hx; exact k.2 x hx⟩

theorem RelT.new (p : PlanL) (m : Nat) : RelT m (gNew p).done (gNew p).row (gTk (gNew p).ws) tZero :=
  ⟨fun h _ => by show none = _; rw [if_neg (by show ¬ (0 : Int) ≤ -1; omega)], fun i h => (by cases h), fun i => rfl, fun h => rfl⟩

theorem fault_take {h x o wh : Nat} (hw : wh = 1 ∨ wh = 2 ∨ wh = 3) (hh : h < 6) (hx : x < 30) (ho : o < 6) (h0 : wh ≠ 2 → o = 0) : ddFault ⟨(wh : Int), (h : Int), (x : Int), (o : Int)⟩ = 0 := by
  unfold ddFault
  simp only
  rw [if_neg (by omega), if_neg (by omega)]
theorem out_no {n m : Nat} {d : Dd} (h1 : d.hand < (m : Int)) (h2 : d.other < (m : Int)) (h3 : aloneB d.what = true ∨ d.task < (n : Int)) : ddOut n (m : Int) d = false := by
  unfold ddOut
  rw [decide_eq_false (by omega), decide_eq_false (by omega), Bool.false_or, Bool.false_or]
  rcases h3 with h3 | h3
  · rw [h3]; rfl
  · rw [decide_eq_false (by omega), Bool.and_false]

/-- A hand takes a task. -/
theorem rel_take {p : PlanL} {m h x o wh : Nat} {D : Nat → Bool} {row : List Int} {tk : Nat → Int} {t : TSt} (R : RelT m D row tk t) (hok : PlanOk p) (hm : h < m) (m6 : m ≤ 6) (hr : (h : Int) ∉ row) (ht : tk h < 0) (hx : x ∈ readyL p D)
    (hno : ∀ j, j < m → tk j ≠ (x : Int)) (hw : wh = 1 ∨ wh = 2 ∨ wh = 3) (ho : o < m) (ho0 : wh ≠ 2 → o = 0) (hne : wh = 2 → o ≠ h) :
    ∃ t', Leads p m t [⟨(wh : Int), (h : Int), (x : Int), (o : Int)⟩] t' ∧ RelT m D row (updT tk h (x : Int)) t' := by
  obtain ⟨x1, x2, x3⟩ := readyL_mem.1 hx
  have h30 := hok.len
  refine ⟨takeT t h x, Leads.cons (fault_take hw (by omega) (by omega) (by omega) ho0) (out_no (by show (h : Int) < _; omega) (by show (o : Int) < _; omega) (.inr (by show (x : Int) < _; omega))) ?_ ?_ (Leads.nil _ _ _), ?_⟩
  · show doF p t wh h x o = 0
    unfold doF
    rw [if_neg (by omega), if_neg (by omega), if_neg (by omega)]
    unfold takeF
    have e1 : (t.has h).isSome = false := by rw [R.has h hm, if_neg (by omega)]; rfl
    have e2 : t.had x = false := by
      cases e : t.had x with
      | false => rfl
      | true =>
        rcases R.had x e with h1 | ⟨j, j1, j2⟩
        · rw [x2] at h1; cases h1
        · exact absurd j2 (hno j j1)
    have e3 : t.slp h = false := by rw [R.slp h]; exact decide_eq_false hr
    have e4 : (ndOf p x).any (fun k => !t.fin k.toNat) = false := by
      rw [List.any_eq_false]
      intro k hk
      have := (lack_zero p D x).1 x3
      rw [List.all_eq_true] at this
      rw [R.fin, this k hk]
      simp
    rw [e1, e2, e3, e4]
    simp only [Bool.or_self, Bool.false_eq_true, if_false]
    rw [if_neg]
    intro hc
    exact hne hc.1 hc.2
  · show doT t wh h x = _
    unfold doT
    rw [if_neg (by omega), if_neg (by omega), if_neg (by omega)]
  · refine ⟨fun j hj => ?_, fun i hi => ?_, fun i => R.fin i, fun j => R.slp j⟩
    · show setO t.has h (some x) j = _
      unfold setO updT
      by_cases e : j = h
      · rw [if_pos e, if_pos e, if_pos (by omega)]; rfl
      · rw [if_neg e, if_neg e]; exact R.has j hj
    · have hi : setB t.had x true i = true := hi
      unfold setB at hi
      by_cases e : i = x
      · exact .inr ⟨h, hm, by unfold updT; rw [if_pos rfl, e]⟩
      · rw [if_neg e] at hi
        rcases R.had i hi with h1 | ⟨j, j1, j2⟩
        · exact .inl h1
        · refine .inr ⟨j, j1, ?_⟩
          unfold updT
          rw [if_neg (by rintro rfl; omega)]
          exact j2

/-- A hand goes to sleep. -/
theorem rel_sleep {p : PlanL} {m h : Nat} {D : Nat → Bool} {row : List Int} {tk : Nat → Int} {t : TSt} (R : RelT m D row tk t) (hm : h < m) (m6 : m ≤ 6) (hr : (h : Int) ∉ row) (ht : tk h < 0) :
    ∃ t', Leads p m t [⟨5, (h : Int), 0, 0⟩] t' ∧ RelT m D (row ++ [(h : Int)]) tk t' := by
  refine ⟨⟨t.has, t.had, t.fin, setB t.slp h true⟩, Leads.cons ?_ (out_no (by show (h : Int) < _; omega) (by show (0 : Int) < _; omega) (.inl rfl)) ?_ rfl (Leads.nil _ _ _), ?_⟩
  · unfold ddFault
    simp only
    rw [if_neg (by omega), if_neg (by omega)]
  · show doF p t 5 h 0 0 = 0
    unfold doF
    rw [if_neg (by omega), if_pos rfl]
    have e1 : (t.has h).isSome = false := by rw [R.has h hm, if_neg (by omega)]; rfl
    have e3 : t.slp h = false := by rw [R.slp h]; exact decide_eq_false hr
    rw [e1, e3]
    rfl
  · refine ⟨R.has, R.had, R.fin, fun j => ?_⟩
    show setB t.slp h true j = _
    unfold setB
    by_cases e : j = h
    · subst e
      rw [if_pos rfl]
      exact (decide_eq_true (by simp)).symm
    · rw [if_neg e, R.slp j]
      congr 1
      have e2 : ¬ ((j : Int) = (h : Int)) := by omega
      simp [e2]

/-- So many wake. -/
theorem rel_wake {p : PlanL} {m : Nat} (m6 : m ≤ 6) {D : Nat → Bool} {tk : Nat → Int} : ∀ (n : Nat) {row : List Int} {t : TSt}, RelT m D row tk t → row.Nodup → (∀ x ∈ row, ∃ h : Nat, x = (h : Int) ∧ h < m) →
    ∃ t', Leads p m t ((row.take n).map fun k => ⟨6, k, 0, 0⟩) t' ∧ RelT m D (row.drop n) tk t' := by
  intro n
  induction n with
  | zero => intro row t R _ _; exact ⟨t, Leads.nil _ _ _, R⟩
  | succ n ih =>
    intro row t R hn hr
    cases row with
    | nil => exact ⟨t, Leads.nil _ _ _, R⟩
    | cons k rest =>
      obtain ⟨h, rfl, hm⟩ := hr k (by simp)
      have hno := (List.nodup_cons.1 hn).1
      have R1 : RelT m D rest tk ⟨t.has, t.had, t.fin, setB t.slp h false⟩ := by
        refine ⟨R.has, R.had, R.fin, fun j => ?_⟩
        show setB t.slp h false j = _
        unfold setB
        by_cases e : j = h
        · subst e
          rw [if_pos rfl]
          exact (decide_eq_false hno).symm
        · rw [if_neg e, R.slp j]
          congr 1
          have e2 : ¬ ((j : Int) = (h : Int)) := by omega
          simp [e2]
      obtain ⟨t', h1, h2⟩ := ih R1 (List.nodup_cons.1 hn).2 (fun x hx => hr x (by simp [hx]))
      refine ⟨t', ?_, h2⟩
      rw [List.take_succ_cons, List.map_cons]
      refine Leads.cons ?_ (out_no (by show (h : Int) < _; omega) (by show (0 : Int) < _; omega) (.inl rfl)) ?_ rfl h1
      · unfold ddFault
        simp only
        rw [if_neg (by omega), if_neg (by omega)]
      · show doF p t 6 h 0 0 = 0
        unfold doF
        rw [if_neg (by omega), if_neg (by omega), if_pos rfl]
        have e3 : t.slp h = true := by rw [R.slp h]; exact decide_eq_true (by simp)
        rw [if_pos e3]

/-- A task is done. -/
theorem rel_done {p : PlanL} {m h i : Nat} {D : Nat → Bool} {row : List Int} {tk : Nat → Int} {t : TSt} (R : RelT m D row tk t) (hok : PlanOk p) (hm : h < m) (m6 : m ≤ 6) (ht : tk h = (i : Int)) (hi : i < p.length) :
    ∃ t', Leads p m t [⟨4, (h : Int), (i : Int), 0⟩] t' ∧ RelT m (upB D i) row (updT tk h (-1)) t' := by
  have h30 := hok.len
  refine ⟨⟨setO t.has h none, t.had, setB t.fin i true, t.slp⟩, Leads.cons ?_ (out_no (by show (h : Int) < _; omega) (by show (0 : Int) < _; omega) (.inr (by show (i : Int) < _; omega))) ?_ rfl (Leads.nil _ _ _), ?_⟩
  · unfold ddFault
    simp only
    rw [if_neg (by omega), if_neg (by omega)]
  · show doF p t 4 h i 0 = 0
    unfold doF
    rw [if_pos rfl, if_pos]
    rw [R.has h hm, ht, if_pos (by omega)]
    rfl
  · refine ⟨fun j hj => ?_, fun j hj => ?_, fun j => ?_, R.slp⟩
    · show setO t.has h none j = _
      unfold setO updT
      by_cases e : j = h
      · rw [if_pos e, if_pos e, if_neg (by omega)]
      · rw [if_neg e, if_neg e]; exact R.has j hj
    · rcases R.had j hj with h1 | ⟨k, k1, k2⟩
      · left
        unfold upB
        split
        · rfl
        · exact h1
      · by_cases e : k = h
        · subst e
          left
          rw [ht] at k2
          unfold upB
          rw [if_pos (by omega)]
        · exact .inr ⟨k, k1, by unfold updT; rw [if_neg e]; exact k2⟩
    · show setB t.fin i true j = upB D i j
      unfold setB upB
      rw [R.fin j]

theorem GInv.one {p : PlanL} {room m : Nat} {s : GSt} (H : GInv p room m s) (a : Int) : s.spill.count a + (workL m s.ws).count a ≤ 1 := by
  rw [H.count a]
  have hn : (natL (readyL p s.done)).Nodup := by
    unfold natL
    exact List.pairwise_map.2 ((readyL_nodup p s.done).imp (fun h e => h (by omega)))
  exact List.nodup_iff_count.1 hn a
theorem work_one {m : Nat} {f : Nat → Wk} {j : Nat} (hj : j < m) (a : Int) : (ownW (f j)).count a ≤ (workL m f).count a := by
  have := workL_count m f j ⟨-1, [], -1, 0⟩ hj a
  have e : (ownW ⟨-1, [], -1, 0⟩).count a = 0 := by simp [ownW, nearL]
  omega
theorem work_two {m : Nat} {f : Nat → Wk} {j h : Nat} (hj : j < m) (hh : h < m) (hne : j ≠ h) (a : Int) : (ownW (f j)).count a + (ownW (f h)).count a ≤ (workL m f).count a := by
  have h1 := workL_count m f j ⟨-1, [], -1, 0⟩ hj a
  have e : (ownW ⟨-1, [], -1, 0⟩).count a = 0 := by simp [ownW, nearL]
  have h2 := work_one (f := upW f j ⟨-1, [], -1, 0⟩) hh a
  rw [upW_other _ _ _ _ (Ne.symm hne)] at h2
  omega
theorem task_count {k : Wk} {x : Nat} (h : k.task = (x : Int)) : 1 ≤ (ownW k).count (x : Int) := by
  refine List.count_pos_iff.2 ?_
  unfold ownW
  rw [h, nearL_pos (show (0 : Int) ≤ (x : Int) by omega)]
  simp
/-- What lies in the spill is no hand's task. -/
theorem GInv.spill_no {p : PlanL} {room m : Nat} {s : GSt} (H : GInv p room m s) {x : Nat} (hx : (x : Int) ∈ s.spill) : ∀ j, j < m → gTk s.ws j ≠ (x : Int) := by
  intro j hj e
  have h1 := H.one (x : Int)
  have h2 := work_one (f := s.ws) hj (x : Int)
  have h3 := task_count (k := s.ws j) e
  have h4 := List.count_pos_iff.2 hx
  omega
/-- What a hand has near, or in its ring, is no hand's task. -/
theorem GInv.own_no {p : PlanL} {room m : Nat} {s : GSt} (H : GInv p room m s) {h x : Nat} (hm : h < m) (hx : (x : Int) ∈ (s.ws h).ring ++ nearL (s.ws h).near) : ∀ j, j < m → gTk s.ws j ≠ (x : Int) := by
  intro j hj e
  have h1 := H.one (x : Int)
  have h3 := task_count (k := s.ws j) e
  have h4 := List.count_pos_iff.2 hx
  have h5 : (ownW (s.ws h)).count (x : Int) = ((s.ws h).ring ++ nearL (s.ws h).near).count (x : Int) + (nearL (s.ws h).task).count (x : Int) := by
    unfold ownW
    rw [List.count_append]
  by_cases ejh : j = h
  · subst ejh
    have h2 := work_one (f := s.ws) hj (x : Int)
    have h6 : 1 ≤ (nearL (s.ws j).task).count (x : Int) := by
      have e' : (s.ws j).task = (x : Int) := e
      rw [e', nearL_pos (by omega)]; simp
    omega
  · have h2 := work_two (f := s.ws) hj hm ejh (x : Int)
    omega

/-- A step's deeds may be so. -/
theorem step_leads {p : PlanL} (hok : PlanOk p) {room m : Nat} (m6 : m ≤ 6) {s : GSt} (H : GInv p room m s) {t : TSt} (R : RelT m s.done s.row (gTk s.ws) t) {h : Nat} (pick : Nat) (hm : h < m) :
    ∃ t', Leads p m t (gStep p room m s h pick).2 t' ∧ RelT m (gStep p room m s h pick).1.done (gStep p room m s h pick).1.row (gTk (gStep p room m s h pick).1.ws) t' := by
  unfold gStep
  by_cases hr : (h : Int) ∈ s.row
  · rw [if_pos hr]; exact ⟨t, Leads.nil _ _ _, R⟩
  · rw [if_neg hr]
    by_cases ht : 0 ≤ (s.ws h).task
    · rw [if_pos ht]
      unfold gWork
      by_cases hl : 1 < (s.ws h).left
      · rw [if_pos hl]
        refine ⟨t, Leads.nil _ _ _, R.congr fun j => ?_⟩
        show gTk s.ws j = gTk (upW s.ws h _) j
        rw [gTk_up]
        unfold updT
        by_cases e : j = h
        · rw [if_pos e, e]; rfl
        · rw [if_neg e]
      · rw [if_neg hl]
        obtain ⟨i, hi, hir⟩ := H.mem (x := (s.ws h).task) (held_own hm (by unfold ownW; rw [nearL_pos ht]; simp))
        have hin := (readyL_mem.1 hir).1
        obtain ⟨t1, l1, r1⟩ := rel_done (p := p) R hok hm m6 (i := i) hi hin
        obtain ⟨t2, l2, r2⟩ := rel_wake (p := p) m6 (natL (newL p s.done i)).length r1 H.row (fun x hx => by obtain ⟨k, e, hk, _⟩ := H.rows x hx; exact ⟨k, e, hk⟩)
        have hit : (s.ws h).task.toNat = i := by rw [hi]; rfl
        rw [hit]
        simp only
        refine ⟨t2, ?_, r2.congr fun j => ?_⟩
        · have := l1.trans l2
          rw [hi]
          exact this
        · rw [gTk_up]
          have := putAll_keep room ⟨(s.ws h).near, (s.ws h).ring, -1, (s.ws h).left - 1⟩ (natL (newL p s.done i))
          rw [this.1]
    · rw [if_neg ht]
      have hgt : gTk s.ws h < 0 := by show (s.ws h).task < 0; omega
      have slp : ∃ t', Leads p m t (gSleep s h).2 t' ∧ RelT m (gSleep s h).1.done (gSleep s h).1.row (gTk (gSleep s h).1.ws) t' := rel_sleep R hm m6 hr hgt
      unfold gFind
      by_cases hn : 0 ≤ (s.ws h).near
      · rw [if_pos hn]
        obtain ⟨i, hi, hir⟩ := H.mem (x := (s.ws h).near) (held_own hm (by unfold ownW; rw [nearL_pos hn]; simp))
        obtain ⟨t', l, r⟩ := rel_take (wh := 1) (o := 0) R hok hm m6 hr hgt hir (H.own_no hm (by rw [hi, nearL_pos (by omega)]; simp)) (.inl rfl) (by omega) (fun _ => rfl) (fun h => by cases h)
        refine ⟨t', ?_, r.congr fun j => ?_⟩
        · rw [hi]; exact l
        · rw [gTk_up, hi]; rfl
      · rw [if_neg hn]
        by_cases hg : (s.ws h).ring ≠ []
        · rw [if_pos hg]
          obtain ⟨i, hi, hir⟩ := H.mem (x := (s.ws h).ring.getLastD 0) (held_own hm (by unfold ownW; exact List.mem_append.2 (.inl (List.mem_append.2 (.inl (getLastD_mem _ hg))))))
          obtain ⟨t', l, r⟩ := rel_take (wh := 1) (o := 0) R hok hm m6 hr hgt hir (H.own_no hm (by rw [← hi]; exact List.mem_append.2 (.inl (getLastD_mem _ hg)))) (.inl rfl) (by omega) (fun _ => rfl) (fun h => by cases h)
          refine ⟨t', ?_, r.congr fun j => ?_⟩
          · rw [hi]; exact l
          · rw [gTk_up, hi]; rfl
        · rw [if_neg hg]
          split
          · rename_i x rest hs
            obtain ⟨i, rfl, hir⟩ := H.mem (x := x) (by unfold heldL; rw [hs]; simp)
            obtain ⟨t', l, r⟩ := rel_take (wh := 3) (o := 0) R hok hm m6 hr hgt hir (H.spill_no (by rw [hs]; simp)) (.inr (.inr rfl)) (by omega) (fun _ => rfl) (fun h => by cases h)
            exact ⟨t', l, r.congr fun j => (by rw [gTk_up]; rfl)⟩
          · split
            · exact slp
            · rename_i hs he
              unfold gRob
              split
              · exact slp
              · rename_i x xs hl
                have hom : pick % m < m := Nat.mod_lt _ (by omega)
                have hxr : x ∈ (s.ws (pick % m)).ring := by
                  have : x ∈ x :: xs := by simp
                  rw [← hl] at this
                  exact List.mem_of_mem_take this
                obtain ⟨i, rfl, hir⟩ := H.mem (x := x) (held_own hom (by unfold ownW; simp [hxr]))
                obtain ⟨t', l, r⟩ := rel_take (wh := 2) (o := pick % m) R hok hm m6 hr hgt hir (H.own_no hom (by simp [hxr])) (.inr (.inl rfl)) hom (fun h => absurd rfl h) (fun _ => he)
                refine ⟨t', l, r.congr fun j => ?_⟩
                rw [gTk_up]
                unfold updT
                by_cases e : j = h
                · rw [if_pos e, if_pos e]; rfl
                · rw [if_neg e, if_neg e, gTk_up]
                  unfold updT
                  by_cases e2 : j = pick % m
                  · rw [if_pos e2, e2]; rfl
                  · rw [if_neg e2]

/-- How many deeds, and sleepers. -/
theorem step_few {p : PlanL} {room m : Nat} (s : GSt) (h pick : Nat) : (gStep p room m s h pick).2.length + (gStep p room m s h pick).1.row.length ≤ s.row.length + 2 := by
  unfold gStep
  split
  · simp
  · split
    · unfold gWork
      split
      · simp only [List.length_nil]; omega
      · simp only [List.length_cons, List.length_map, List.length_take, List.length_drop]; omega
    · unfold gFind
      split
      · simp only [List.length_cons, List.length_nil]; omega
      · split
        · simp only [List.length_cons, List.length_nil]; omega
        · split
          · simp only [List.length_cons, List.length_nil]; omega
          · split
            · simp only [gSleep, List.length_cons, List.length_nil, List.length_append]; omega
            · unfold gRob
              split
              · simp only [gSleep, List.length_cons, List.length_nil, List.length_append]; omega
              · simp only [List.length_cons, List.length_nil]; omega

end Go.Proofs.YtoofalchkedciaaGreatDoor

namespace Go.Proofs.YtoofalchkedciaaGreatDoor

/-- How many deeds are of a kind. -/
def kindN (k : Int) (l : List Dd) : Nat := l.countP (fun d => decide (d.what = k))
def hadN (l : List Dd) : Nat := kindN 1 l + kindN 2 l + kindN 3 l
theorem kindN_cons (k : Int) (d : Dd) (l : List Dd) : kindN k (d :: l) = kindN k l + if d.what = k then 1 else 0 := by
  unfold kindN
  rw [List.countP_cons]
  by_cases h : d.what = k <;> simp [h]
theorem kindN_app (k : Int) (a b : List Dd) : kindN k (a ++ b) = kindN k a + kindN k b := by simp [kindN]

theorem cnt_one : ∀ (n : Nat) (f g : Nat → Bool) (k : Nat), k < n → f k = false → g k = true → (∀ i, i ≠ k → g i = f i) → (List.range n).countP g = (List.range n).countP f + 1
  | 0, _, _, _, h, _, _, _ => by omega
  | n + 1, f, g, k, hk, hf, hg, he => by
    rw [List.range_succ, List.countP_append, List.countP_append]
    by_cases e : k = n
    · subst e
      have h1 : (List.range k).countP g = (List.range k).countP f := List.countP_congr fun x hx => by rw [he x (by have := List.mem_range.1 hx; omega)]
      rw [h1]
      simp [hf, hg]
    · have := cnt_one n f g k (by omega) hf hg he
      rw [this]
      have h2 : [n].countP g = [n].countP f := by simp [he n (Ne.symm e)]
      omega
theorem cnt_le (n : Nat) (f : Nat → Bool) : (List.range n).countP f ≤ n := by
  have := List.countP_le_length (p := f) (l := List.range n)
  simpa using this

def nHad (p : PlanL) (s : TSt) : Nat := (List.range p.length).countP s.had
def nHas (m : Nat) (s : TSt) : Nat := (List.range m).countP (fun h => (s.has h).isSome)
def nSlp (m : Nat) (s : TSt) : Nat := (List.range m).countP s.slp

theorem run_kinds (p : PlanL) (m : Nat) : ∀ (l : List Dd) (s : TSt), (∀ d ∈ l, ddFault d = 0) → runF p (m : Int) s l = 0 →
    hadN l + nHad p s ≤ p.length ∧ kindN 4 l ≤ hadN l + nHas m s ∧ kindN 6 l ≤ kindN 5 l + nSlp m s ∧ kindN 5 l + nSlp m s ≤ kindN 6 l + m
  | [], s, _, _ => by
    have h1 := cnt_le p.length s.had
    have h2 := cnt_le m s.slp
    unfold nHad nSlp hadN kindN
    simp
    omega
  | d :: l, s, hf, hr => by
    have hd := hf d (by simp)
    have hl := fun x hx => hf x (List.mem_cons_of_mem d hx)
    have hg := dd_right hd
    unfold runF at hr
    split at hr
    · cases hr
    rename_i hout
    split at hr
    · rename_i hdo
      obtain ⟨i1, i2, i3, i4⟩ := run_kinds p m l (dT s d) hl hr
      obtain ⟨wh, hd', t, o, rfl, hh6, ho6, ht, hal⟩ := dd_nat hd
      have hw : 1 ≤ wh ∧ wh ≤ 6 := by have h1 := hg.1; have h2 := hg.2.1; simp only at h1 h2; omega
      have hhm : hd' < m := by
        unfold ddOut at hout
        simp only [Bool.or_eq_true, decide_eq_true_eq, not_or] at hout
        omega
      have htn : wh ≠ 5 → wh ≠ 6 → t < p.length := by
        intro h5 h6
        unfold ddOut at hout
        have : aloneB (wh : Int) = false := by simp [aloneB]; omega
        simp only [this, Bool.not_false, Bool.true_and, Bool.or_eq_true, decide_eq_true_eq, not_or] at hout
        omega
      have e1 : dF p s ⟨(wh : Int), (hd' : Int), (t : Int), (o : Int)⟩ = doF p s wh hd' t o := rfl
      have e2 : dT s ⟨(wh : Int), (hd' : Int), (t : Int), (o : Int)⟩ = doT s wh hd' t := rfl
      rw [e1] at hdo
      rw [e2] at i1 i2 i3 i4
      unfold doF at hdo
      unfold doT at i1 i2 i3 i4
      have k := fun k => kindN_cons k ⟨(wh : Int), (hd' : Int), (t : Int), (o : Int)⟩ l
      simp only at k
      by_cases h4 : wh = 4
      · subst h4
        rw [if_pos rfl] at hdo i1 i2 i3 i4
        have hhas : s.has hd' = some t := by
          by_cases h : s.has hd' = some t
          · exact h
          · rw [if_neg h] at hdo; cases hdo
        have hc : nHas m s = nHas m ⟨setO s.has hd' none, s.had, setB s.fin t true, s.slp⟩ + 1 := by
          unfold nHas
          refine cnt_one m _ _ hd' hhm ?_ ?_ ?_
          · simp [setO]
          · rw [hhas]; rfl
          · intro i hi
            simp [setO, hi]
        have hc2 : nHad p ⟨setO s.has hd' none, s.had, setB s.fin t true, s.slp⟩ = nHad p s := rfl
        have hc3 : nSlp m ⟨setO s.has hd' none, s.had, setB s.fin t true, s.slp⟩ = nSlp m s := rfl
        rw [hc2] at i1
        rw [hc3] at i3 i4
        have k1 := k 1; have k2 := k 2; have k3 := k 3; have k4 := k 4; have k5 := k 5; have k6 := k 6
        rw [if_neg (by omega)] at k1
        rw [if_neg (by omega)] at k2
        rw [if_neg (by omega)] at k3
        rw [if_pos (by omega)] at k4
        rw [if_neg (by omega)] at k5
        rw [if_neg (by omega)] at k6
        unfold hadN at *
        omega
      · rw [if_neg h4] at hdo i1 i2 i3 i4
        by_cases h5 : wh = 5
        · subst h5
          rw [if_pos rfl] at hdo i1 i2 i3 i4
          have hs : s.slp hd' = false := by
            cases h : s.slp hd' with
            | false => rfl
            | true => rw [h] at hdo; simp at hdo
          have hc : nSlp m ⟨s.has, s.had, s.fin, setB s.slp hd' true⟩ = nSlp m s + 1 := by
            unfold nSlp
            refine cnt_one m _ _ hd' hhm hs ?_ ?_
            · simp [setB]
            · intro i hi
              simp [setB, hi]
          have hc2 : nHad p ⟨s.has, s.had, s.fin, setB s.slp hd' true⟩ = nHad p s := rfl
          have hc3 : nHas m ⟨s.has, s.had, s.fin, setB s.slp hd' true⟩ = nHas m s := rfl
          rw [hc2] at i1
          rw [hc3] at i2
          have k1 := k 1; have k2 := k 2; have k3 := k 3; have k4 := k 4; have k5 := k 5; have k6 := k 6
          rw [if_neg (by omega)] at k1
          rw [if_neg (by omega)] at k2
          rw [if_neg (by omega)] at k3
          rw [if_neg (by omega)] at k4
          rw [if_pos (by omega)] at k5
          rw [if_neg (by omega)] at k6
          unfold hadN at *
          omega
        · rw [if_neg h5] at hdo i1 i2 i3 i4
          by_cases h6 : wh = 6
          · subst h6
            rw [if_pos rfl] at hdo i1 i2 i3 i4
            have hs : s.slp hd' = true := by
              cases h : s.slp hd' with
              | true => rfl
              | false => rw [h] at hdo; simp at hdo
            have hc : nSlp m s = nSlp m ⟨s.has, s.had, s.fin, setB s.slp hd' false⟩ + 1 := by
              unfold nSlp
              refine cnt_one m _ _ hd' hhm ?_ hs ?_
              · simp [setB]
              · intro i hi
                simp [setB, hi]
            have hc2 : nHad p ⟨s.has, s.had, s.fin, setB s.slp hd' false⟩ = nHad p s := rfl
            have hc3 : nHas m ⟨s.has, s.had, s.fin, setB s.slp hd' false⟩ = nHas m s := rfl
            rw [hc2] at i1
            rw [hc3] at i2
            have k1 := k 1; have k2 := k 2; have k3 := k 3; have k4 := k 4; have k5 := k 5; have k6 := k 6
            rw [if_neg (by omega)] at k1
            rw [if_neg (by omega)] at k2
            rw [if_neg (by omega)] at k3
            rw [if_neg (by omega)] at k4
            rw [if_neg (by omega)] at k5
            rw [if_pos (by omega)] at k6
            unfold hadN at *
            omega
          · rw [if_neg h6] at hdo i1 i2 i3 i4
            have htl := htn h5 h6
            unfold takeF at hdo
            have hb : (s.has hd').isSome = false ∧ s.had t = false := by
              by_cases h : ((s.has hd').isSome || s.had t) = true
              · rw [if_pos h] at hdo; cases hdo
              · simp only [Bool.or_eq_true, not_or, Bool.not_eq_true] at h
                exact h
            have hc : nHas m (takeT s hd' t) = nHas m s + 1 := by
              unfold nHas takeT
              refine cnt_one m _ _ hd' hhm hb.1 ?_ ?_
              · simp [setO]
              · intro i hi
                simp [setO, hi]
            have hc2 : nHad p (takeT s hd' t) = nHad p s + 1 := by
              unfold nHad takeT
              refine cnt_one p.length _ _ t htl hb.2 ?_ ?_
              · simp [setB]
              · intro i hi
                simp [setB, hi]
            have hc3 : nSlp m (takeT s hd' t) = nSlp m s := rfl
            rw [hc] at i2
            rw [hc2] at i1
            rw [hc3] at i3 i4
            have hk : (∀ x : Int, x = 4 ∨ x = 5 ∨ x = 6 → kindN x (⟨(wh : Int), (hd' : Int), (t : Int), (o : Int)⟩ :: l) = kindN x l) ∧ hadN (⟨(wh : Int), (hd' : Int), (t : Int), (o : Int)⟩ :: l) = hadN l + 1 := by
              refine ⟨fun x hx => ?_, ?_⟩
              · rw [k x, if_neg (by omega)]; rfl
              · unfold hadN
                rw [k 1, k 2, k 3]
                have : wh = 1 ∨ wh = 2 ∨ wh = 3 := by omega
                rcases this with rfl | rfl | rfl <;> simp <;> omega
            rw [hk.1 4 (by omega), hk.1 5 (by omega), hk.1 6 (by omega), hk.2]
            omega
    · exact absurd hr (by assumption)

theorem kinds_zero {p : PlanL} {m : Nat} {l : List Dd} (hf : ∀ d ∈ l, ddFault d = 0) (hr : runF p (m : Int) tZero l = 0) : hadN l ≤ p.length ∧ kindN 4 l ≤ hadN l ∧ kindN 6 l ≤ kindN 5 l ∧ kindN 5 l ≤ kindN 6 l + m := by
  have h := run_kinds p m l tZero hf hr
  have e1 : nHad p tZero = 0 := by unfold nHad tZero; simp
  have e2 : nHas m tZero = 0 := by unfold nHas tZero; simp
  have e3 : nSlp m tZero = 0 := by unfold nSlp tZero; simp
  rw [e1, e2, e3] at h
  omega
theorem kinds_all (l : List Dd) (hf : ∀ d ∈ l, ddFault d = 0) : l.length = hadN l + kindN 4 l + kindN 5 l + kindN 6 l := by
  induction l with
  | nil => rfl
  | cons d l ih =>
    have hg := dd_right (hf d (by simp))
    have := ih (fun x hx => hf x (by simp [hx]))
    unfold hadN at *
    rw [List.length_cons, this, kindN_cons, kindN_cons, kindN_cons, kindN_cons, kindN_cons, kindN_cons]
    have hw : d.what = 1 ∨ d.what = 2 ∨ d.what = 3 ∨ d.what = 4 ∨ d.what = 5 ∨ d.what = 6 := by omega
    rcases hw with h | h | h | h | h | h <;> simp [h] <;> omega
/-- A beginning of deeds that may have been may have been. -/
theorem run_take (p : PlanL) (hands : Int) : ∀ (l : List Dd) (s : TSt) (k : Nat), runF p hands s l = 0 → runF p hands s (l.take k) = 0
  | [], _, _, _ => by simp [runF]
  | d :: l, s, 0, _ => by simp [runF]
  | d :: l, s, k + 1, h => by
    rw [List.take_succ_cons]
    unfold runF at h ⊢
    split at h
    · cases h
    · rename_i h1
      rw [if_neg h1]
      split at h
      · rename_i h2
        rw [if_pos h2]
        exact run_take p hands l _ k h
      · exact absurd h (by assumption)

end Go.Proofs.YtoofalchkedciaaGreatDoor

namespace Go.Proofs.YtoofalchkedciaaGreatDoor

/-- So many steps, of the hands hs with the picks ps. -/
def seqN (p : PlanL) (room m : Nat) (hs ps : Nat → Nat) (s : GSt) : Nat → GSt
  | 0 => s
  | k + 1 => (gStep p room m (seqN p room m hs ps s k) (hs k) (ps k)).1

theorem seq_keeps {p : PlanL} (hok : PlanOk p) {room m : Nat} (h1 : 1 ≤ room) {hs ps : Nat → Nat} (hlt : ∀ i, hs i < m) {s : GSt} (H : GInv p room m s) (W : Watch m s) (k : Nat) : GInv p room m (seqN p room m hs ps s k) ∧ Watch m (seqN p room m hs ps s k) := by
  induction k with
  | zero => exact ⟨H, W⟩
  | succ k ih =>
    obtain ⟨H', W'⟩ := ih
    exact ⟨gStep_inv hok h1 H' (ps k) (hlt k), step_watch H' W' (ps k) (hlt k)⟩

theorem seq_phi {p : PlanL} (hok : PlanOk p) {room m : Nat} (h1 : 1 ≤ room) {hs ps : Nat → Nat} (hlt : ∀ i, hs i < m) (hinj : ∀ i j, i < m → j < m → hs i = hs j → i = j) {s : GSt} (H : GInv p room m s) (W : Watch m s) (k : Nat) (hk : k ≤ m) :
    gPhi p m (seqN p room m hs ps s k) + 1 ≤ gPhi p m s ∨ (let t := seqN p room m hs ps s k; t.done = s.done ∧ t.spill = s.spill ∧ t.ws = s.ws ∧ (∀ j : Nat, (∀ i, i < k → hs i ≠ j) → ((j : Int) ∈ t.row ↔ (j : Int) ∈ s.row)) ∧
      ∀ j : Nat, j < k → ((hs j : Nat) : Int) ∉ s.row → ownW (s.ws (hs j)) = [] ∧ s.spill = []) := by
  induction k with
  | zero => exact .inr ⟨rfl, rfl, rfl, fun _ _ => Iff.rfl, fun j hj => by omega⟩
  | succ k ih =>
    have ih := ih (by omega)
    obtain ⟨H', W'⟩ := seq_keeps (ps := ps) hok h1 hlt H W k
    have e : seqN p room m hs ps s (k + 1) = (gStep p room m (seqN p room m hs ps s k) (hs k) (ps k)).1 := rfl
    rw [e]
    generalize seqN p room m hs ps s k = t at *
    have hkm : hs k < m := hlt k
    have hnew : ∀ i, i < k → hs i ≠ hs k := fun i hi e => by have := hinj i k (by omega) (by omega) e; omega
    by_cases hr : ((hs k : Nat) : Int) ∈ t.row
    · have e2 : (gStep p room m t (hs k) (ps k)).1 = t := by unfold gStep; rw [if_pos hr]
      rw [e2]
      rcases ih with ih | ⟨i1, i2, i3, i4, i5⟩
      · exact .inl ih
      · refine .inr ⟨i1, i2, i3, fun j hj => i4 j (fun i hi => hj i (by omega)), fun j hj hjr => ?_⟩
        by_cases ej : j = k
        · subst ej; exact absurd ((i4 (hs j) hnew).1 hr) hjr
        · exact i5 j (by omega) hjr
    · rcases step_phi H' (ps k) hkm hr with ⟨h2, _⟩ | ⟨h2, h3, h4⟩
      · left
        rcases ih with ih | ⟨i1, i2, i3, i4, i5⟩
        · omega
        · have : gPhi p m t = gPhi p m s := by unfold gPhi; rw [i1, i3]
          omega
      · rw [h2]
        have e3 : gPhi p m (gSleep t (hs k)).1 = gPhi p m t := rfl
        rcases ih with ih | ⟨i1, i2, i3, i4, i5⟩
        · exact .inl (by rw [e3]; exact ih)
        · refine .inr ⟨i1, i2, i3, fun j hj => ?_, fun j hj hjr => ?_⟩
          · show (j : Int) ∈ t.row ++ [((hs k : Nat) : Int)] ↔ _
            rw [List.mem_append, List.mem_singleton, i4 j (fun i hi => hj i (by omega))]
            constructor
            · rintro (h | h)
              · exact h
              · have := hj k (by omega); omega
            · exact .inl
          · by_cases ej : j = k
            · subst ej; exact ⟨by rw [← i3]; exact h4, by rw [← i2]; exact h3⟩
            · exact i5 j (by omega) hjr

/-- A round gets on while not all are done. -/
theorem seq_on {p : PlanL} (hok : PlanOk p) {room m : Nat} (h1 : 1 ≤ room) {hs ps : Nat → Nat} (hlt : ∀ i, hs i < m) (hinj : ∀ i j, i < m → j < m → hs i = hs j → i = j) (hall : ∀ j, j < m → ∃ i, i < m ∧ hs i = j) {s : GSt} (H : GInv p room m s) (W : Watch m s) (h0 : 0 < leftN p s.done) :
    gPhi p m (seqN p room m hs ps s m) + 1 ≤ gPhi p m s := by
  rcases seq_phi (ps := ps) hok h1 hlt hinj H W m (Nat.le_refl _) with h | ⟨_, _, _, _, i5⟩
  · exact h
  · exfalso
    have hne := ready_ne hok h0
    have hl := H.held.length_eq
    rw [natL_len] at hl
    have hx : ∃ x, x ∈ heldL m s := List.exists_mem_of_length_pos (by omega)
    obtain ⟨x, hx⟩ := hx
    unfold heldL at hx
    rcases List.mem_append.1 hx with hx | hx
    · have hsp : s.spill ≠ [] := fun e => by rw [e] at hx; cases hx
      obtain ⟨j, hj, hjr⟩ := W hsp
      obtain ⟨i, hi, rfl⟩ := hall j hj
      exact hsp (i5 i hi hjr).2
    · obtain ⟨j, hj, hxj⟩ := workL_mem.1 hx
      have hne : ownW (s.ws j) ≠ [] := fun e => by rw [e] at hxj; cases hxj
      obtain ⟨i, hi, rfl⟩ := hall j hj
      exact hne (i5 i hi (H.awake hne)).1

/-- When all are done a step changes nothing of that. -/
theorem step_over {p : PlanL} {room m : Nat} {t : GSt} (H' : GInv p room m t) {k : Nat} (hk : k < m) (r : Nat) (ih : leftN p t.done = 0) : leftN p (gStep p room m t k r).1.done = 0 := by
  have hheld : heldL m t = [] := by
    have := H'.held.length_eq
    rw [ready_none ih] at this
    exact List.eq_nil_of_length_eq_zero (by simpa [natL] using this)
  have hown : ownW (t.ws k) = [] := by
    cases e : ownW (t.ws k) with
    | nil => rfl
    | cons a l =>
      have := held_own (s := t) hk (x := a) (by rw [e]; simp)
      rw [hheld] at this
      cases this
  have htask : (t.ws k).task < 0 := by
    by_cases h : 0 ≤ (t.ws k).task
    · have : (t.ws k).task ∈ ownW (t.ws k) := by unfold ownW; rw [nearL_pos h]; simp
      rw [hown] at this; cases this
    · omega
  unfold gStep
  split
  · exact ih
  · rw [if_neg (by omega)]
    have key : (gFind p room m t k r).1.done = t.done := by
      unfold gFind gRob gSleep
      split
      · rfl
      · split
        · rfl
        · split
          · rfl
          · split
            · rfl
            · split <;> rfl
    rw [key]; exact ih
theorem late_seq {p : PlanL} (hok : PlanOk p) {room m r : Nat} (h1 : 1 ≤ room) {hs ps : Nat → Nat} (hlt : ∀ i, hs i < m) (hinj : ∀ i j, i < m → j < m → hs i = hs j → i = j) (hall : ∀ j, j < m → ∃ i, i < m ∧ hs i = j) {s : GSt} (H : GInv p room m s) (W : Watch m s) (h : Late p m r s) :
    Late p m (r + 1) (seqN p room m hs ps s m) := by
  by_cases h0 : leftN p s.done = 0
  · left
    have key : ∀ k, leftN p (seqN p room m hs ps s k).done = 0 := by
      intro k
      induction k with
      | zero => exact h0
      | succ k ih => exact step_over (seq_keeps hok h1 hlt H W k).1 (hlt k) (ps k) ih
    exact key m
  · have h2 := seq_on (ps := ps) hok h1 hlt hinj hall H W (by omega)
    rcases h with h | h
    · exact absurd h h0
    · exact .inr (by omega)

/-- Hands around, whichever begins. -/
theorem around_lt {m : Nat} (h1 : 1 ≤ m) (T i : Nat) : (T + i) % m < m := Nat.mod_lt _ (by omega)
theorem around_inj {m : Nat} (T i j : Nat) (hi : i < m) (hj : j < m) (h : (T + i) % m = (T + j) % m) : i = j := by
  have key : ∀ a b, a ≤ b → b < m → (T + a) % m = (T + b) % m → a = b := by
    intro a b hab hb e
    have h1 : (T + b - (T + a)) % m = 0 := Nat.sub_mod_eq_zero_of_mod_eq e.symm
    have h2 : T + b - (T + a) = b - a := by omega
    rw [h2, Nat.mod_eq_of_lt (by omega)] at h1
    omega
  rcases Nat.le_total i j with hl | hl
  · exact key i j hl hj h
  · exact (key j i hl hi h.symm).symm
theorem around_all {m : Nat} (T j : Nat) (hj : j < m) : ∃ i, i < m ∧ (T + i) % m = j := by
  have h1 : T % m < m := Nat.mod_lt _ (by omega)
  by_cases h : T % m ≤ j
  · refine ⟨j - T % m, by omega, ?_⟩
    rw [Nat.add_mod, Nat.mod_eq_of_lt (a := j - T % m) (by omega), show T % m + (j - T % m) = j by omega, Nat.mod_eq_of_lt hj]
  · refine ⟨j + m - T % m, by omega, ?_⟩
    rw [Nat.add_mod, Nat.mod_eq_of_lt (a := j + m - T % m) (by omega), show T % m + (j + m - T % m) = j + m by omega, Nat.add_mod_right, Nat.mod_eq_of_lt hj]

/-- So many are woken as were not ready. -/
theorem step_wakes {p : PlanL} (hok : PlanOk p) {room m : Nat} {s : GSt} (H : GInv p room m s) {h : Nat} (pick : Nat) (hm : h < m) :
    kindN 6 (gStep p room m s h pick).2 + leftN p (gStep p room m s h pick).1.done + (readyL p s.done).length ≤ leftN p s.done + (readyL p (gStep p room m s h pick).1.done).length := by
  unfold gStep
  split
  · simp [kindN]
  · split
    · rename_i ht
      unfold gWork
      split
      · simp [kindN]
      · obtain ⟨i, hi, hir⟩ := H.task hm ht
        have e0 : (s.ws h).task.toNat = i := by rw [hi]; rfl
        obtain ⟨i1, i2, _⟩ := readyL_mem.1 hir
        rw [e0]
        have h1 := (ready_step hok H.clos hir).length_eq
        have h2 := left_up (p := p) s.done i i1 i2
        rw [List.length_append, List.length_append, List.length_singleton] at h1
        show kindN 6 (_ :: ((s.row.take (natL (newL p s.done i)).length).map fun k => (⟨6, k, 0, 0⟩ : Dd))) + leftN p (upB s.done i) + _ ≤ _ + (readyL p (upB s.done i)).length
        rw [kindN_cons, if_neg (by show ¬ (4 : Int) = 6; omega)]
        have h3 : kindN 6 ((s.row.take (natL (newL p s.done i)).length).map fun k => (⟨6, k, 0, 0⟩ : Dd)) ≤ (newL p s.done i).length := by
          refine Nat.le_trans List.countP_le_length ?_
          rw [List.length_map, List.length_take, natL_len]
          exact Nat.min_le_left _ _
        have h5 : (newL p s.done i).length + (readyL p s.done).length = (readyL p (upB s.done i)).length + 1 := by omega
        clear h1
        generalize kindN 6 ((s.row.take (natL (newL p s.done i)).length).map fun k => (⟨6, k, 0, 0⟩ : Dd)) = z at *
        omega
    · have hno : ∀ (d : Dd), d.what ≠ 6 → kindN 6 [d] = 0 := by
        intro d hd
        rw [kindN_cons, if_neg hd]; rfl
      unfold gFind
      split
      · rw [hno _ (show (1 : Int) ≠ 6 by omega)]; simp
      · split
        · rw [hno _ (show (1 : Int) ≠ 6 by omega)]; simp
        · split
          · rw [hno _ (show (3 : Int) ≠ 6 by omega)]; simp
          · split
            · unfold gSleep; rw [hno _ (show (5 : Int) ≠ 6 by omega)]; simp
            · unfold gRob
              split
              · unfold gSleep; rw [hno _ (show (5 : Int) ≠ 6 by omega)]; simp
              · rw [hno _ (show (2 : Int) ≠ 6 by omega)]; simp

end Go.Proofs.YtoofalchkedciaaGreatDoor
