/-
  What a gang does may be so: its deeds, told to trace.
-/
import Derived.Test.YtocpmncedlenbaaGreatDoorP13GangPlays
import Derived.Test.YtocpmncedlenbaaGreatDoorP21GangPlays
namespace Go.Proofs.YtocpmncedlenbaaGreatDoor

/-- The state that deeds tell, and a gang's. -/
structure RelT (m : Nat) (D : Nat → Bool) (row : List Int) (tk : Nat → Int) (t : TSt) : Prop where
  has : ∀ h, h < m → t.has h = if 0 ≤ tk h then some (tk h).toNat else none
  had : ∀ i : Nat, t.had i = true → D i = true ∨ ∃ h, h < m ∧ tk h = (i : Int)
  fin : ∀ i, t.fin i = D i
  slp : ∀ h : Nat, t.slp h = decide ((h : Int) ∈ row)

def gTk (ws : Nat → Wk) : Nat → Int := fun h => (ws h).task
def updT (tk : Nat → Int) (h : Nat) (x : Int) : Nat → Int := fun i => if i = h then x else tk i
theorem RelT.congr {m : Nat} {D : Nat → Bool} {row : List Int} {tk tk' : Nat → Int} {t : TSt} (h : RelT m D row tk t) (e : ∀ j, tk j = tk' j) : RelT m D row tk' t := by rw [← funext e]; exact h
theorem gTk_up (ws : Nat → Wk) (h : Nat) (k : Wk) (j : Nat) : gTk (upW ws h k) j = updT (gTk ws) h k.task j := by
  unfold gTk updT upW
  split <;> rfl

/-- Deeds that lead from t to t'. -/
def Leads (p : PlanL) (m : Nat) (t : TSt) (ds : List Dd) (t' : TSt) : Prop := (∀ L, runF p m t (ds ++ L) = runF p m t' L) ∧ ∀ d ∈ ds, ddFault d = 0
theorem Leads.nil (p : PlanL) (m : Nat) (t : TSt) : Leads p m t [] t := ⟨fun _ => rfl, by simp⟩
theorem Leads.cons {p : PlanL} {m : Nat} {t t1 t' : TSt} {d : Dd} {ds : List Dd} (h0 : ddFault d = 0) (h1 : ddOut p.length m d = false) (h2 : dF p t d = 0) (h3 : dT t d = t1) (h : Leads p m t1 ds t') : Leads p m t (d :: ds) t' := by
  refine ⟨fun L => ?_, fun x hx => ?_⟩
  · rw [List.cons_append]
    show (if ddOut p.length m d = true then (1 : Int) else if dF p t d = 0 then runF p m (dT t d) (ds ++ L) else dF p t d) = _
    rw [if_neg (by rw [h1]; simp), if_pos h2, h3]
    exact h.1 L
  · rcases List.mem_cons.1 hx with rfl | hx
    · exact h0
    · exact h.2 x hx
theorem Leads.trans {p : PlanL} {m : Nat} {t t1 t' : TSt} {ds ds' : List Dd} (h : Leads p m t ds t1) (k : Leads p m t1 ds' t') : Leads p m t (ds ++ ds') t' :=
  ⟨fun L => by rw [List.append_assoc, h.1, k.1], fun x hx => by rcases List.mem_append.1 hx with hx | hx; exact h.2 x hx; exact k.2 x hx⟩

theorem RelT.new (p : PlanL) (m : Nat) : RelT m (gNew p).done (gNew p).row (gTk (gNew p).ws) tZero :=
  ⟨fun h _ => by show none = _; rw [if_neg (by show ¬ (0 : Int) ≤ -1; omega)], fun i h => (by cases h), fun i => rfl, fun h => rfl⟩

theorem fault_take {h x o wh : Nat} (hw : wh = 1 ∨ wh = 2 ∨ wh = 3) (hh : h < 6) (hx : x < 30) (ho : o < 6) (h0 : wh ≠ 2 → o = 0) : ddFault ⟨(wh : Int), (h : Int), (x : Int), (o : Int)⟩ = 0 := by
  unfold ddFault
  simp only
  rw [if_neg (by omega), if_neg (by omega)]
theorem out_no {n m : Nat} {d : Dd} (h1 : d.hand < (m : Int)) (h2 : d.other < (m : Int)) (h3 : aloneB d.what = true ∨ d.task < (n : Int)) : ddOut n (m : Int) d = false := by
  unfold ddOut
  rw [decide_eq_false (by omega), decide_eq_false (by omega), Bool.false_or, Bool.false_or]
  rcases h3 with h3 | h3
  · rw [h3]; rfl
  · rw [decide_eq_false (by omega), Bool.and_false]

/-- A hand takes a task. -/
theorem rel_take {p : PlanL} {m h x o wh : Nat} {D : Nat → Bool} {row : List Int} {tk : Nat → Int} {t : TSt} (R : RelT m D row tk t) (hok : PlanOk p) (hm : h < m) (m6 : m ≤ 6) (hr : (h : Int) ∉ row) (ht : tk h < 0) (hx : x ∈ readyL p D)
    (hno : ∀ j, j < m → tk j ≠ (x : Int)) (hw : wh = 1 ∨ wh = 2 ∨ wh = 3) (ho : o < m) (ho0 : wh ≠ 2 → o = 0) (hne : wh = 2 → o ≠ h) :
    ∃ t', Leads p m t [⟨(wh : Int), (h : Int), (x : Int), (o : Int)⟩] t' ∧ RelT m D row (updT tk h (x : Int)) t' := by
  obtain ⟨x1, x2, x3⟩ := readyL_mem.1 hx
  have h30 := hok.len
  refine ⟨takeT t h x, Leads.cons (fault_take hw (by omega) (by omega) (by omega) ho0) (out_no (by show (h : Int) < _; omega) (by show (o : Int) < _; omega) (.inr (by show (x : Int) < _; omega))) ?_ ?_ (Leads.nil _ _ _), ?_⟩
  · show doF p t wh h x o = 0
    unfold doF
    rw [if_neg (by omega), if_neg (by omega), if_neg (by omega)]
    unfold takeF
    have e1 : (t.has h).isSome = false := by rw [R.has h hm, if_neg (by omega)]; rfl
    have e2 : t.had x = false := by
      cases e : t.had x with
      | false => rfl
      | true =>
        rcases R.had x e with h1 | ⟨j, j1, j2⟩
        · rw [x2] at h1; cases h1
        · exact absurd j2 (hno j j1)
    have e3 : t.slp h = false := by rw [R.slp h]; exact decide_eq_false hr
    have e4 : (ndOf p x).any (fun k => !t.fin k.toNat) = false := by
      rw [List.any_eq_false]
      intro k hk
      have := (lack_zero p D x).1 x3
      rw [List.all_eq_true] at this
      rw [R.fin, this k hk]
      simp
    rw [e1, e2, e3, e4]
    simp only [Bool.or_self, Bool.false_eq_true, if_false]
    rw [if_neg]
    intro hc
    exact hne hc.1 hc.2
  · show doT t wh h x = _
    unfold doT
    rw [if_neg (by omega), if_neg (by omega), if_neg (by omega)]
  · refine ⟨fun j hj => ?_, fun i hi => ?_, fun i => R.fin i, fun j => R.slp j⟩
    · show setO t.has h (some x) j = _
      unfold setO updT
      by_cases e : j = h
      · rw [if_pos e, if_pos e, if_pos (by omega)]; rfl
      · rw [if_neg e, if_neg e]; exact R.has j hj
    · have hi : setB t.had x true i = true := hi
      unfold setB at hi
      by_cases e : i = x
      · exact .inr ⟨h, hm, by unfold updT; rw [if_pos rfl, e]⟩
      · rw [if_neg e] at hi
        rcases R.had i hi with h1 | ⟨j, j1, j2⟩
        · exact .inl h1
        · refine .inr ⟨j, j1, ?_⟩
          unfold updT
          rw [if_neg (by rintro rfl; omega)]
          exact j2

/-- A hand goes to sleep. -/
theorem rel_sleep {p : PlanL} {m h : Nat} {D : Nat → Bool} {row : List Int} {tk : Nat → Int} {t : TSt} (R : RelT m D row tk t) (hm : h < m) (m6 : m ≤ 6) (hr : (h : Int) ∉ row) (ht : tk h < 0) :
    ∃ t', Leads p m t [⟨5, (h : Int), 0, 0⟩] t' ∧ RelT m D (row ++ [(h : Int)]) tk t' := by
  refine ⟨⟨t.has, t.had, t.fin, setB t.slp h true⟩, Leads.cons ?_ (out_no (by show (h : Int) < _; omega) (by show (0 : Int) < _; omega) (.inl rfl)) ?_ rfl (Leads.nil _ _ _), ?_⟩
  · unfold ddFault
    simp only
    rw [if_neg (by omega), if_neg (by omega)]
  · show doF p t 5 h 0 0 = 0
    unfold doF
    rw [if_neg (by omega), if_pos rfl]
    have e1 : (t.has h).isSome = false := by rw [R.has h hm, if_neg (by omega)]; rfl
    have e3 : t.slp h = false := by rw [R.slp h]; exact decide_eq_false hr
    rw [e1, e3]
    rfl
  · refine ⟨R.has, R.had, R.fin, fun j => ?_⟩
    show setB t.slp h true j = _
    unfold setB
    by_cases e : j = h
    · subst e
      rw [if_pos rfl]
      exact (decide_eq_true (by simp)).symm
    · rw [if_neg e, R.slp j]
      congr 1
      have e2 : ¬ ((j : Int) = (h : Int)) := by omega
      simp [e2]

/-- So many wake. -/
theorem rel_wake {p : PlanL} {m : Nat} (m6 : m ≤ 6) {D : Nat → Bool} {tk : Nat → Int} : ∀ (n : Nat) {row : List Int} {t : TSt}, RelT m D row tk t → row.Nodup → (∀ x ∈ row, ∃ h : Nat, x = (h : Int) ∧ h < m) →
    ∃ t', Leads p m t ((row.take n).map fun k => ⟨6, k, 0, 0⟩) t' ∧ RelT m D (row.drop n) tk t' := by
  intro n
  induction n with
  | zero => intro row t R _ _; exact ⟨t, Leads.nil _ _ _, R⟩
  | succ n ih =>
    intro row t R hn hr
    cases row with
    | nil => exact ⟨t, Leads.nil _ _ _, R⟩
    | cons k rest =>
      obtain ⟨h, rfl, hm⟩ := hr k (by simp)
      have hno := (List.nodup_cons.1 hn).1
      have R1 : RelT m D rest tk ⟨t.has, t.had, t.fin, setB t.slp h false⟩ := by
        refine ⟨R.has, R.had, R.fin, fun j => ?_⟩
        show setB t.slp h false j = _
        unfold setB
        by_cases e : j = h
        · subst e
          rw [if_pos rfl]
          exact (decide_eq_false hno).symm
        · rw [if_neg e, R.slp j]
          congr 1
          have e2 : ¬ ((j : Int) = (h : Int)) := by omega
          simp [e2]
      obtain ⟨t', h1, h2⟩ := ih R1 (List.nodup_cons.1 hn).2 (fun x hx => hr x (by simp [hx]))
      refine ⟨t', ?_, h2⟩
      rw [List.take_succ_cons, List.map_cons]
      refine Leads.cons ?_ (out_no (by show (h : Int) < _; omega) (by show (0 : Int) < _; omega) (.inl rfl)) ?_ rfl h1
      · unfold ddFault
        simp only
        rw [if_neg (by omega), if_neg (by omega)]
      · show doF p t 6 h 0 0 = 0
        unfold doF
        rw [if_neg (by omega), if_neg (by omega), if_pos rfl]
        have e3 : t.slp h = true := by rw [R.slp h]; exact decide_eq_true (by simp)
        rw [if_pos e3]

/-- A task is done. -/
theorem rel_done {p : PlanL} {m h i : Nat} {D : Nat → Bool} {row : List Int} {tk : Nat → Int} {t : TSt} (R : RelT m D row tk t) (hok : PlanOk p) (hm : h < m) (m6 : m ≤ 6) (ht : tk h = (i : Int)) (hi : i < p.length) :
    ∃ t', Leads p m t [⟨4, (h : Int), (i : Int), 0⟩] t' ∧ RelT m (upB D i) row (updT tk h (-1)) t' := by
  have h30 := hok.len
  refine ⟨⟨setO t.has h none, t.had, setB t.fin i true, t.slp⟩, Leads.cons ?_ (out_no (by show (h : Int) < _; omega) (by show (0 : Int) < _; omega) (.inr (by show (i : Int) < _; omega))) ?_ rfl (Leads.nil _ _ _), ?_⟩
  · unfold ddFault
    simp only
    rw [if_neg (by omega), if_neg (by omega)]
  · show doF p t 4 h i 0 = 0
    unfold doF
    rw [if_pos rfl, if_pos]
    rw [R.has h hm, ht, if_pos (by omega)]
    rfl
  · refine ⟨fun j hj => ?_, fun j hj => ?_, fun j => ?_, R.slp⟩
    · show setO t.has h none j = _
      unfold setO updT
      by_cases e : j = h
      · rw [if_pos e, if_pos e, if_neg (by omega)]
      · rw [if_neg e, if_neg e]; exact R.has j hj
    · rcases R.had j hj with h1 | ⟨k, k1, k2⟩
      · left
        unfold upB
        split
        · rfl
        · exact h1
      · by_cases e : k = h
        · subst e
          left
          rw [ht] at k2
          unfold upB
          rw [if_pos (by omega)]
        · exact .inr ⟨k, k1, by unfold updT; rw [if_neg e]; exact k2⟩
    · show setB t.fin i true j = upB D i j
      unfold setB upB
      rw [R.fin j]

theorem GInv.one {p : PlanL} {room m : Nat} {s : GSt} (H : GInv p room m s) (a : Int) : s.spill.count a + (workL m s.ws).count a ≤ 1 := by
  rw [H.count a]
  have hn : (natL (readyL p s.done)).Nodup := by
    unfold natL
    exact List.pairwise_map.2 ((readyL_nodup p s.done).imp (fun h e => h (by omega)))
  exact List.nodup_iff_count.1 hn a
theorem work_one {m : Nat} {f : Nat → Wk} {j : Nat} (hj : j < m) (a : Int) : (ownW (f j)).count a ≤ (workL m f).count a := by
  have := workL_count m f j ⟨-1, [], -1, 0⟩ hj a
  have e : (ownW ⟨-1, [], -1, 0⟩).count a = 0 := by simp [ownW, nearL]
  omega
theorem work_two {m : Nat} {f : Nat → Wk} {j h : Nat} (hj : j < m) (hh : h < m) (hne : j ≠ h) (a : Int) : (ownW (f j)).count a + (ownW (f h)).count a ≤ (workL m f).count a := by
  have h1 := workL_count m f j ⟨-1, [], -1, 0⟩ hj a
  have e : (ownW ⟨-1, [], -1, 0⟩).count a = 0 := by simp [ownW, nearL]
  have h2 := work_one (f := upW f j ⟨-1, [], -1, 0⟩) hh a
  rw [upW_other _ _ _ _ (Ne.symm hne)] at h2
  omega
theorem task_count {k : Wk} {x : Nat} (h : k.task = (x : Int)) : 1 ≤ (ownW k).count (x : Int) := by
  refine List.count_pos_iff.2 ?_
  unfold ownW
  rw [h, nearL_pos (show (0 : Int) ≤ (x : Int) by omega)]
  simp
/-- What lies in the spill is no hand's task. -/
theorem GInv.spill_no {p : PlanL} {room m : Nat} {s : GSt} (H : GInv p room m s) {x : Nat} (hx : (x : Int) ∈ s.spill) : ∀ j, j < m → gTk s.ws j ≠ (x : Int) := by
  intro j hj e
  have h1 := H.one (x : Int)
  have h2 := work_one (f := s.ws) hj (x : Int)
  have h3 := task_count (k := s.ws j) e
  have h4 := List.count_pos_iff.2 hx
  omega
/-- What a hand has near, or in its ring, is no hand's task. -/
theorem GInv.own_no {p : PlanL} {room m : Nat} {s : GSt} (H : GInv p room m s) {h x : Nat} (hm : h < m) (hx : (x : Int) ∈ (s.ws h).ring ++ nearL (s.ws h).near) : ∀ j, j < m → gTk s.ws j ≠ (x : Int) := by
  intro j hj e
  have h1 := H.one (x : Int)
  have h3 := task_count (k := s.ws j) e
  have h4 := List.count_pos_iff.2 hx
  have h5 : (ownW (s.ws h)).count (x : Int) = ((s.ws h).ring ++ nearL (s.ws h).near).count (x : Int) + (nearL (s.ws h).task).count (x : Int) := by
    unfold ownW
    rw [List.count_append]
  by_cases ejh : j = h
  · subst ejh
    have h2 := work_one (f := s.ws) hj (x : Int)
    have h6 : 1 ≤ (nearL (s.ws j).task).count (x : Int) := by
      have e' : (s.ws j).task = (x : Int) := e
      rw [e', nearL_pos (by omega)]; simp
    omega
  · have h2 := work_two (f := s.ws) hj hm ejh (x : Int)
    omega

/-- A step's deeds may be so. -/
theorem step_leads {p : PlanL} (hok : PlanOk p) {room m : Nat} (m6 : m ≤ 6) {s : GSt} (H : GInv p room m s) {t : TSt} (R : RelT m s.done s.row (gTk s.ws) t) {h : Nat} (pick : Nat) (hm : h < m) :
    ∃ t', Leads p m t (gStep p room m s h pick).2 t' ∧ RelT m (gStep p room m s h pick).1.done (gStep p room m s h pick).1.row (gTk (gStep p room m s h pick).1.ws) t' := by
  unfold gStep
  by_cases hr : (h : Int) ∈ s.row
  · rw [if_pos hr]; exact ⟨t, Leads.nil _ _ _, R⟩
  · rw [if_neg hr]
    by_cases ht : 0 ≤ (s.ws h).task
    · rw [if_pos ht]
      unfold gWork
      by_cases hl : 1 < (s.ws h).left
      · rw [if_pos hl]
        refine ⟨t, Leads.nil _ _ _, R.congr fun j => ?_⟩
        show gTk s.ws j = gTk (upW s.ws h _) j
        rw [gTk_up]
        unfold updT
        by_cases e : j = h
        · rw [if_pos e, e]; rfl
        · rw [if_neg e]
      · rw [if_neg hl]
        obtain ⟨i, hi, hir⟩ := H.mem (x := (s.ws h).task) (held_own hm (by unfold ownW; rw [nearL_pos ht]; simp))
        have hin := (readyL_mem.1 hir).1
        obtain ⟨t1, l1, r1⟩ := rel_done (p := p) R hok hm m6 (i := i) hi hin
        obtain ⟨t2, l2, r2⟩ := rel_wake (p := p) m6 (natL (newL p s.done i)).length r1 H.row (fun x hx => by obtain ⟨k, e, hk, _⟩ := H.rows x hx; exact ⟨k, e, hk⟩)
        have hit : (s.ws h).task.toNat = i := by rw [hi]; rfl
        rw [hit]
        simp only
        refine ⟨t2, ?_, r2.congr fun j => ?_⟩
        · have := l1.trans l2
          rw [hi]
          exact this
        · rw [gTk_up]
          have := putAll_keep room ⟨(s.ws h).near, (s.ws h).ring, -1, (s.ws h).left - 1⟩ (natL (newL p s.done i))
          rw [this.1]
    · rw [if_neg ht]
      have hgt : gTk s.ws h < 0 := by show (s.ws h).task < 0; omega
      have slp : ∃ t', Leads p m t (gSleep s h).2 t' ∧ RelT m (gSleep s h).1.done (gSleep s h).1.row (gTk (gSleep s h).1.ws) t' := rel_sleep R hm m6 hr hgt
      unfold gFind
      by_cases hn : 0 ≤ (s.ws h).near
      · rw [if_pos hn]
        obtain ⟨i, hi, hir⟩ := H.mem (x := (s.ws h).near) (held_own hm (by unfold ownW; rw [nearL_pos hn]; simp))
        obtain ⟨t', l, r⟩ := rel_take (wh := 1) (o := 0) R hok hm m6 hr hgt hir (H.own_no hm (by rw [hi, nearL_pos (by omega)]; simp)) (.inl rfl) (by omega) (fun _ => rfl) (fun h => by cases h)
        refine ⟨t', ?_, r.congr fun j => ?_⟩
        · rw [hi]; exact l
        · rw [gTk_up, hi]; rfl
      · rw [if_neg hn]
        by_cases hg : (s.ws h).ring ≠ []
        · rw [if_pos hg]
          obtain ⟨i, hi, hir⟩ := H.mem (x := (s.ws h).ring.getLastD 0) (held_own hm (by unfold ownW; exact List.mem_append.2 (.inl (List.mem_append.2 (.inl (getLastD_mem _ hg))))))
          obtain ⟨t', l, r⟩ := rel_take (wh := 1) (o := 0) R hok hm m6 hr hgt hir (H.own_no hm (by rw [← hi]; exact List.mem_append.2 (.inl (getLastD_mem _ hg)))) (.inl rfl) (by omega) (fun _ => rfl) (fun h => by cases h)
          refine ⟨t', ?_, r.congr fun j => ?_⟩
          · rw [hi]; exact l
          · rw [gTk_up, hi]; rfl
        · rw [if_neg hg]
          split
          · rename_i x rest hs
            obtain ⟨i, rfl, hir⟩ := H.mem (x := x) (by unfold heldL; rw [hs]; simp)
            obtain ⟨t', l, r⟩ := rel_take (wh := 3) (o := 0) R hok hm m6 hr hgt hir (H.spill_no (by rw [hs]; simp)) (.inr (.inr rfl)) (by omega) (fun _ => rfl) (fun h => by cases h)
            exact ⟨t', l, r.congr fun j => (by rw [gTk_up]; rfl)⟩
          · split
            · exact slp
            · rename_i hs he
              unfold gRob
              split
              · exact slp
              · rename_i x xs hl
                have hom : pick % m < m := Nat.mod_lt _ (by omega)
                have hxr : x ∈ (s.ws (pick % m)).ring := by
                  have : x ∈ x :: xs := by simp
                  rw [← hl] at this
                  exact List.mem_of_mem_take this
                obtain ⟨i, rfl, hir⟩ := H.mem (x := x) (held_own hom (by unfold ownW; simp [hxr]))
                obtain ⟨t', l, r⟩ := rel_take (wh := 2) (o := pick % m) R hok hm m6 hr hgt hir (H.own_no hom (by simp [hxr])) (.inr (.inl rfl)) hom (fun h => absurd rfl h) (fun _ => he)
                refine ⟨t', l, r.congr fun j => ?_⟩
                rw [gTk_up]
                unfold updT
                by_cases e : j = h
                · rw [if_pos e, if_pos e]; rfl
                · rw [if_neg e, if_neg e, gTk_up]
                  unfold updT
                  by_cases e2 : j = pick % m
                  · rw [if_pos e2, e2]; rfl
                  · rw [if_neg e2]

/-- How many deeds, and sleepers. -/
theorem step_few {p : PlanL} {room m : Nat} (s : GSt) (h pick : Nat) : (gStep p room m s h pick).2.length + (gStep p room m s h pick).1.row.length ≤ s.row.length + 2 := by
  unfold gStep
  split
  · simp
  · split
    · unfold gWork
      split
      · simp only [List.length_nil]; omega
      · simp only [List.length_cons, List.length_map, List.length_take, List.length_drop]; omega
    · unfold gFind
      split
      · simp only [List.length_cons, List.length_nil]; omega
      · split
        · simp only [List.length_cons, List.length_nil]; omega
        · split
          · simp only [List.length_cons, List.length_nil]; omega
          · split
            · simp only [gSleep, List.length_cons, List.length_nil, List.length_append]; omega
            · unfold gRob
              split
              · simp only [gSleep, List.length_cons, List.length_nil, List.length_append]; omega
              · simp only [List.length_cons, List.length_nil]; omega

end Go.Proofs.YtocpmncedlenbaaGreatDoor
