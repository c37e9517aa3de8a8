/-
  Contracts of trace's state: do.
-/
import Derived.Test.YtoofalchkedciaaDoorP36TraceBack
namespace Go.Proofs.YtoofalchkedciaaDoor
open Go.RowKit Go.Deep Go.Maps

theorem TrAt.slp1 {w : World} {T a1 a2 a3 a4 : Nat} {pv : Value} {s : TSt} (h : TrAt w T a1 a2 a3 a4 pv s) (k : Nat) (hk : k ≤ 1000) (v : Bool) :
    ∃ w', (Instr.mapUpdate 87 (.map (some a4)) (.int .i64 (k : Int)) (.bool v)).run Tryd.prog w = .ok () w' ∧ TrAt w' T a1 a2 a3 a4 pv ⟨s.has, s.had, s.fin, setB s.slp k v⟩ ∧ Only [a4] w w' := by
  obtain ⟨w', h1, h2, h3⟩ := h.slp.put k hk v
  have hnd := h.nd
  simp only [List.nodup_cons, List.mem_cons, List.not_mem_nil, or_false, not_or, not_false_eq_true, List.nodup_nil, and_true] at hnd
  obtain ⟨⟨n1, n2, n3, n4⟩, ⟨n5, n6, n7⟩, ⟨n8, n9⟩, n10⟩ := hnd
  exact ⟨w', h1, ⟨h.cells.only h3 (by simpa using n4), h.has.only h3 (by simpa using n7), h.had.only h3 (by simpa using n9), h.fin.only h3 (by simpa using n10), h2, h.nd⟩, h3⟩
theorem TrAt.fin1 {w : World} {T a1 a2 a3 a4 : Nat} {pv : Value} {s : TSt} (h : TrAt w T a1 a2 a3 a4 pv s) (k : Nat) (hk : k ≤ 1000) (v : Bool) :
    ∃ w', (Instr.mapUpdate 87 (.map (some a3)) (.int .i64 (k : Int)) (.bool v)).run Tryd.prog w = .ok () w' ∧ TrAt w' T a1 a2 a3 a4 pv ⟨s.has, s.had, setB s.fin k v, s.slp⟩ ∧ Only [a3] w w' := by
  obtain ⟨w', h1, h2, h3⟩ := h.fin.put k hk v
  have hnd := h.nd
  simp only [List.nodup_cons, List.mem_cons, List.not_mem_nil, or_false, not_or, not_false_eq_true, List.nodup_nil, and_true] at hnd
  obtain ⟨⟨n1, n2, n3, n4⟩, ⟨n5, n6, n7⟩, ⟨n8, n9⟩, n10⟩ := hnd
  exact ⟨w', h1, ⟨h.cells.only h3 (by simpa using n3), h.has.only h3 (by simpa using n6), h.had.only h3 (by simpa using n8), h2, h.slp.only h3 (by simpa using fun e => n10 e.symm), h.nd⟩, h3⟩
theorem TrAt.has0 {w : World} {T a1 a2 a3 a4 : Nat} {pv : Value} {s : TSt} (h : TrAt w T a1 a2 a3 a4 pv s) (k : Nat) (hk : k ≤ 1000) (ty : TypeId) :
    ∃ w', (Builtin.delete_ #[86, 3] ty #[.map (some a1), .int .i64 (k : Int)]).run Tryd.prog w = .ok (.tuple #[]) w' ∧ TrAt w' T a1 a2 a3 a4 pv ⟨setO s.has k none, s.had, s.fin, s.slp⟩ ∧ Only [a1] w w' := by
  obtain ⟨w', h1, h2, h3⟩ := h.has.drop k hk ty
  have hnd := h.nd
  simp only [List.nodup_cons, List.mem_cons, List.not_mem_nil, or_false, not_or, not_false_eq_true, List.nodup_nil, and_true] at hnd
  obtain ⟨⟨n1, n2, n3, n4⟩, ⟨n5, n6, n7⟩, ⟨n8, n9⟩, n10⟩ := hnd
  exact ⟨w', h1, ⟨h.cells.only h3 (by simpa using n1), h2, h.had.only h3 (by simpa using fun e => n5 e.symm), h.fin.only h3 (by simpa using fun e => n6 e.symm), h.slp.only h3 (by simpa using fun e => n7 e.symm), h.nd⟩, h3⟩

/-- What the box holds, and where. -/
theorem do_world {w : World} {T a1 a2 a3 a4 wh h t o : Nat} {pv : Value} {s : TSt} (hT : TrAt w T a1 a2 a3 a4 pv s) (W : World)
    (hW : w.alloc (.cells #[.int .i64 (wh : Int), .int .i64 (h : Int), .int .i64 (t : Int), .int .i64 (o : Int)] 46) = W) :
    TrAt W T a1 a2 a3 a4 pv s ∧ Cells W w.heap.size [.int .i64 (wh : Int), .int .i64 (h : Int), .int .i64 (t : Int), .int .i64 (o : Int)] ∧ Only [] w W ∧ w.heap.size ∉ [a1, a2, a3, a4] := by
  subst hW
  have ho := (Only.refl [] w).alloc (.cells #[.int .i64 (wh : Int), .int .i64 (h : Int), .int .i64 (t : Int), .int .i64 (o : Int)] 46)
  refine ⟨hT.same ho, Cells.new w _ _, ho, ?_⟩
  have h1 := hT.has.lt
  have h2 := hT.had.lt
  have h3 := hT.fin.lt
  have h4 := hT.slp.lt
  simp only [List.mem_cons, List.not_mem_nil, or_false, not_or]
  omega

/-- What a walk of do reads. -/
structure DoAt (W : World) (B T a1 a2 a3 a4 : Nat) (pv : Value) (s : TSt) (wh h t o : Nat) : Prop where
  tr : TrAt W T a1 a2 a3 a4 pv s
  box : Cells W B [.int .i64 (wh : Int), .int .i64 (h : Int), .int .i64 (t : Int), .int .i64 (o : Int)]
  off : B ∉ [a1, a2, a3, a4]
theorem DoAt.same {W W' : World} {B T a1 a2 a3 a4 : Nat} {pv : Value} {s : TSt} {wh h t o : Nat} (d : DoAt W B T a1 a2 a3 a4 pv s wh h t o) (ho : Only [] W W') : DoAt W' B T a1 a2 a3 a4 pv s wh h t o := ⟨d.tr.same ho, d.box.only ho (by simp), d.off⟩

/-- A world that only drew. -/
theorem drew_of (W : World) (n : Nat) : Only [] W (W.drewN n) := (Only.refl [] W).drewN n

set_option maxRecDepth 100000 in
set_option maxHeartbeats 4000000 in
theorem trace_do (wh h t o : Nat) (T a1 a2 a3 a4 : Nat) (pv : Value) (s : TSt) (p : PlanL) (w : World) (hT : TrAt w T a1 a2 a3 a4 pv s) (hP : InPlan w pv p) (hh : h ≤ 1000) (ht : (wh = 5 ∨ wh = 6) ∧ t = 0 ∨ t < p.length) (h30 : p.length ≤ 30) (hn : ∀ t, ∀ k ∈ ndOf p t, 0 ≤ k ∧ k < p.length) :
    Calls Tryd.prog 36 #[.pointer (some ⟨T, 0, none⟩), .agg #[.int .i64 (wh : Int), .int .i64 (h : Int), .int .i64 (t : Int), .int .i64 (o : Int)]] w fun e w' =>
      e = .returned (errV (doF p s wh h t o)) ∧ Only [T, a1, a2, a3, a4] w w' ∧ (doF p s wh h t o = 0 → TrAt w' T a1 a2 a3 a4 pv (doT s wh h t)) := by
  obtain ⟨W, hW⟩ : ∃ W, w.alloc (.cells #[.int .i64 (wh : Int), .int .i64 (h : Int), .int .i64 (t : Int), .int .i64 (o : Int)] 46) = W := ⟨_, rfl⟩
  obtain ⟨k1, k2, k3, k4⟩ := do_world hT W hW
  have t1 : t ≤ 1000 := by omega
  have HW := Lib.hid hW
  have HA : Hid (DoAt W w.heap.size T a1 a2 a3 a4 pv s wh h t o) := ⟨k1, k2, k4⟩
  have HP := Lib.hid (hP.same k3)
  have HO := Lib.hid k3
  have HT5 := Lib.hid (fun (W' : World) (ho : Only [] W W') => (k3.trans ho (by simp)).mono (T := [T, a1, a2, a3, a4]) (by simp))
  have HS5 := Lib.hid (fun (S : List Nat) (hs : ∀ x ∈ S, x ∈ [T, a1, a2, a3, a4]) (W' : World) (ho : Only S W W') => (k3.mono (T := [T, a1, a2, a3, a4]) (by simp)).trans ho (fun y hy _ => hs y hy))
  have d0 := k2.cell 0 _ rfl
  have d1 := k2.cell 1 _ rfl
  have d2 := k2.cell 2 _ rfl
  have c1 := k1.cells.cell 1 _ rfl
  have c4 := k1.cells.cell 4 _ rfl
  have l1 := fun n => (k1.has.only (drew_of W n) (by simp)).look h hh
  have l4 := fun n => (k1.slp.only (drew_of W n) (by simp)).look h hh
  clear hT hP hW k1 k2 k3 k4
  obtain ⟨x, hx⟩ : ∃ x, (s.has h).getD 0 = x := ⟨_, rfl⟩
  obtain ⟨y, hy⟩ : ∃ y, (s.has h).isSome = y := ⟨_, rfl⟩
  obtain ⟨z, hz⟩ : ∃ z, s.slp h = z := ⟨_, rfl⟩
  rw [hx, hy] at l1
  rw [hz] at l4
  have hsome : s.has h = some t ↔ (y = true ∧ x = t) := by
    rw [← hx, ← hy]
    cases s.has h with
    | none => simp
    | some u => simp
  by_cases w4 : wh = 4
  · have g4 : ((wh : Int) == 4) = true := by simp; omega
    cases y with
    | false =>
      have he : doF p s wh h t o = 6 := by unfold doF; rw [if_pos w4, if_neg (by rw [hsome]; simp)]
      rw [he]
      have HE := Lib.hid (show ¬ (6 : Int) = 0 by omega)
      clear he w4 hx hy hz hsome
      go_enter Tryd.func36, Tryd.ntmps36
      go_wp2_with fail
      rw [HW.out]
      refine wp_region_quiet_lit (by kernel_rfl) (by kernel_rfl) ?_
      repeat (first | go_big_quiet_step (fail) | quiet_step (fail))
      refine wpQuiet_nil ?_
      intro _ hw'
      obtain ⟨nq1, hw''⟩ := hw'
      subst hw''
      go_wp2
      go_ret
      exact ⟨rfl, HT5.out _ (by first | exact drew_of W _ | exact (drew_of W _).drewN _), fun h => absurd h HE.out⟩
    | true =>
      by_cases hxt : x = t
      · have gx : ((x : Int) != (t : Int)) = false := by simp; omega
        have HTT : Hid (doT s wh h t = ⟨setO s.has h none, s.had, setB s.fin t true, s.slp⟩) := by show _ = _; unfold doT; rw [if_pos w4]
        have he : doF p s wh h t o = 0 := by unfold doF; rw [if_pos w4, if_pos (hsome.2 ⟨rfl, hxt⟩)]
        rw [he]
        clear he hx hy hz hsome w4 hxt
        go_enter Tryd.func36, Tryd.ntmps36
        go_wp2_with fail
        rw [HW.out]
        refine wp_region_quiet_lit (by kernel_rfl) (by kernel_rfl) ?_
        repeat (first | go_big_quiet_step (fail) | quiet_step (fail))
        refine wpQuiet_nil ?_
        intro _ hw'
        obtain ⟨nq1, hw''⟩ := hw'
        subst hw''
        go_wp2_with fail
        obtain ⟨W9, hW9⟩ : ∃ W9, W.drewN nq1 = W9 := ⟨_, rfl⟩
        have ho9 : Only [] W W9 := by rw [← hW9]; first | exact drew_of W _ | exact (drew_of W _).drewN _
        have H9 := Lib.hid (HA.out.same ho9)
        have d0 := H9.out.box.cell 0 _ rfl
        have d1 := H9.out.box.cell 1 _ rfl
        have d2 := H9.out.box.cell 2 _ rfl
        have c1 := H9.out.tr.cells.cell 1 _ rfl
        have c3 := H9.out.tr.cells.cell 3 _ rfl
        have c4 := H9.out.tr.cells.cell 4 _ rfl
        rw [hW9]
        have HO9 := Lib.hid ho9
        clear hW9 ho9
        obtain ⟨w2, hput, hT2, ho2⟩ := (H9.out.tr.same (Only.refl [] W9).drew).has0 h hh 0
        have HT2 := Lib.hid hT2
        have HO2 := Lib.hid ho2
        clear hT2 ho2
        go_still_tail 6, (by kernel_rfl)
        go_wp2_with fail
        have c3 := HT2.out.cells.cell 3 _ rfl
        have hob : Only [a1] W9 w2 := ((Only.refl [a1] W9).drew).trans HO2.out (fun y hy _ => hy)
        have hba : w.heap.size ∉ [a1] := by have := HA.out.off; simp only [List.mem_cons, List.not_mem_nil, or_false, not_or] at this ⊢; exact this.1
        have d2 := (H9.out.box.only hob hba).cell 2 _ rfl
        obtain ⟨w3, hput3, hT3, ho3⟩ := (HT2.out.same (Only.refl [] w2).drew).fin1 t t1 true
        have HT3 := Lib.hid hT3
        have HO3 := Lib.hid ho3
        have HOB := Lib.hid hob
        clear hT3 ho3 hob hba
        go_still_tail 6, (by kernel_rfl)
        go_wp2
        go_ret
        exact ⟨rfl, HS5.out [a1, a3] (by simp) _ ((HO9.out.mono (by simp)).trans (HOB.out.mono (by simp) |>.trans (((Only.refl [a1, a3] w2).drew).trans HO3.out (fun y hy _ => by simp at hy; simp [hy])) (fun y hy _ => hy)) (fun y hy _ => hy)), by first | (rw [HTT.out]; exact HT3.out) | (intro _; rw [HTT.out]; exact HT3.out)⟩
      · have gx : ((x : Int) != (t : Int)) = true := by simp; omega
        have he : doF p s wh h t o = 6 := by unfold doF; rw [if_pos w4, if_neg (by rw [hsome]; simp [hxt])]
        rw [he]
        have HE := Lib.hid (show ¬ (6 : Int) = 0 by omega)
        clear he w4 hxt hx hy hz hsome
        go_enter Tryd.func36, Tryd.ntmps36
        go_wp2_with fail
        rw [HW.out]
        refine wp_region_quiet_lit (by kernel_rfl) (by kernel_rfl) ?_
        repeat (first | go_big_quiet_step (fail) | quiet_step (fail))
        refine wpQuiet_nil ?_
        intro _ hw'
        obtain ⟨nq1, hw''⟩ := hw'
        subst hw''
        go_wp2
        go_ret
        exact ⟨rfl, HT5.out _ (by first | exact drew_of W _ | exact (drew_of W _).drewN _), fun h => absurd h HE.out⟩
  · have g4 : ((wh : Int) == 4) = false := by simp; omega
    clear hsome
    by_cases w5 : wh = 5
    · have g5 : ((wh : Int) == 5) = true := by simp; omega
      cases y with
      | true =>
        have he : doF p s wh h t o = 6 := by unfold doF; rw [if_neg w4, if_pos w5, hy]; rfl
        rw [he]
        have HE := Lib.hid (show ¬ (6 : Int) = 0 by omega)
        clear he w4 w5 hx hy hz
        go_enter Tryd.func36, Tryd.ntmps36
        go_wp2_with fail
        rw [HW.out]
        refine wp_region_quiet_lit (by kernel_rfl) (by kernel_rfl) ?_
        repeat (first | go_big_quiet_step (fail) | quiet_step (fail))
        refine wpQuiet_nil ?_
        intro _ hw'
        obtain ⟨nq1, hw''⟩ := hw'
        subst hw''
        go_wp2_with fail
        refine wp_region_quiet_lit (by kernel_rfl) (by kernel_rfl) ?_
        repeat (first | go_big_quiet_step (fail) | quiet_step (fail))
        refine wpQuiet_nil ?_
        intro _ hw'
        obtain ⟨nq2, hw''⟩ := hw'
        subst hw''
        go_wp2
        go_ret
        exact ⟨rfl, HT5.out _ (by first | exact drew_of W _ | exact (drew_of W _).drewN _), fun h => absurd h HE.out⟩
      | false =>
        cases z with
        | true =>
          have he : doF p s wh h t o = 6 := by unfold doF; rw [if_neg w4, if_pos w5, hy, hz]; rfl
          rw [he]
          have HE := Lib.hid (show ¬ (6 : Int) = 0 by omega)
          clear he w4 w5 hx hy hz
          go_enter Tryd.func36, Tryd.ntmps36
          go_wp2_with fail
          rw [HW.out]
          refine wp_region_quiet_lit (by kernel_rfl) (by kernel_rfl) ?_
          repeat (first | go_big_quiet_step (fail) | quiet_step (fail))
          refine wpQuiet_nil ?_
          intro _ hw'
          obtain ⟨nq1, hw''⟩ := hw'
          subst hw''
          go_wp2_with fail
          refine wp_region_quiet_lit (by kernel_rfl) (by kernel_rfl) ?_
          repeat (first | go_big_quiet_step (fail) | quiet_step (fail))
          refine wpQuiet_nil ?_
          intro _ hw'
          obtain ⟨nq2, hw''⟩ := hw'
          subst hw''
          go_wp2
          go_ret
          exact ⟨rfl, HT5.out _ (by first | exact drew_of W _ | exact (drew_of W _).drewN _), fun h => absurd h HE.out⟩
        | false =>
          have HTT : Hid (doT s wh h t = ⟨s.has, s.had, s.fin, setB s.slp h true⟩) := by show _ = _; unfold doT; rw [if_neg w4, if_pos w5]
          have he : doF p s wh h t o = 0 := by unfold doF; rw [if_neg w4, if_pos w5, hy, hz]; rfl
          rw [he]
          clear he w4 w5 hx hy hz
          go_enter Tryd.func36, Tryd.ntmps36
          go_wp2_with fail
          rw [HW.out]
          refine wp_region_quiet_lit (by kernel_rfl) (by kernel_rfl) ?_
          repeat (first | go_big_quiet_step (fail) | quiet_step (fail))
          refine wpQuiet_nil ?_
          intro _ hw'
          obtain ⟨nq1, hw''⟩ := hw'
          subst hw''
          go_wp2_with fail
          refine wp_region_quiet_lit (by kernel_rfl) (by kernel_rfl) ?_
          repeat (first | go_big_quiet_step (fail) | quiet_step (fail))
          refine wpQuiet_nil ?_
          intro _ hw'
          obtain ⟨nq2, hw''⟩ := hw'
          subst hw''
          go_wp2_with fail
          obtain ⟨W9, hW9⟩ : ∃ W9, (W.drewN nq1).drewN nq2 = W9 := ⟨_, rfl⟩
          have ho9 : Only [] W W9 := by rw [← hW9]; first | exact drew_of W _ | exact (drew_of W _).drewN _
          have H9 := Lib.hid (HA.out.same ho9)
          have d0 := H9.out.box.cell 0 _ rfl
          have d1 := H9.out.box.cell 1 _ rfl
          have d2 := H9.out.box.cell 2 _ rfl
          have c1 := H9.out.tr.cells.cell 1 _ rfl
          have c3 := H9.out.tr.cells.cell 3 _ rfl
          have c4 := H9.out.tr.cells.cell 4 _ rfl
          rw [hW9]
          have HO9 := Lib.hid ho9
          clear hW9 ho9
          obtain ⟨w2, hput, hT2, ho2⟩ := (H9.out.tr.same (Only.refl [] W9).drew).slp1 h hh true
          have HT2 := Lib.hid hT2
          have HO2 := Lib.hid ho2
          clear hT2 ho2
          go_still_tail 6, (by kernel_rfl)
          go_wp2_with fail
          go_wp2
          go_ret
          exact ⟨rfl, HS5.out _ (by simp) _ ((HO9.out.drew.mono (by simp)).trans HO2.out (fun y hy _ => hy)), fun _ => by rw [HTT.out]; exact HT2.out⟩
    · have g5 : ((wh : Int) == 5) = false := by simp; omega
      by_cases w6 : wh = 6
      · have g6 : ((wh : Int) == 6) = true := by simp; omega
        cases z with
        | false =>
          have he : doF p s wh h t o = 6 := by unfold doF; rw [if_neg w4, if_neg w5, if_pos w6, hz]; rfl
          rw [he]
          have HE := Lib.hid (show ¬ (6 : Int) = 0 by omega)
          clear he w4 w5 w6 hx hy hz
          go_enter Tryd.func36, Tryd.ntmps36
          go_wp2_with fail
          rw [HW.out]
          refine wp_region_quiet_lit (by kernel_rfl) (by kernel_rfl) ?_
          repeat (first | go_big_quiet_step (fail) | quiet_step (fail))
          refine wpQuiet_nil ?_
          intro _ hw'
          obtain ⟨nq1, hw''⟩ := hw'
          subst hw''
          go_wp2_with fail
          refine wp_region_quiet_lit (by kernel_rfl) (by kernel_rfl) ?_
          repeat (first | go_big_quiet_step (fail) | quiet_step (fail))
          refine wpQuiet_nil ?_
          intro _ hw'
          obtain ⟨nq2, hw''⟩ := hw'
          subst hw''
          go_wp2
          go_ret
          exact ⟨rfl, HT5.out _ (by first | exact drew_of W _ | exact (drew_of W _).drewN _), fun h => absurd h HE.out⟩
        | true =>
          have HTT : Hid (doT s wh h t = ⟨s.has, s.had, s.fin, setB s.slp h false⟩) := by show _ = _; unfold doT; rw [if_neg w4, if_neg w5, if_pos w6]
          have he : doF p s wh h t o = 0 := by unfold doF; rw [if_neg w4, if_neg w5, if_pos w6, hz]; rfl
          rw [he]
          clear he w4 w5 w6 hx hy hz
          go_enter Tryd.func36, Tryd.ntmps36
          go_wp2_with fail
          rw [HW.out]
          refine wp_region_quiet_lit (by kernel_rfl) (by kernel_rfl) ?_
          repeat (first | go_big_quiet_step (fail) | quiet_step (fail))
          refine wpQuiet_nil ?_
          intro _ hw'
          obtain ⟨nq1, hw''⟩ := hw'
          subst hw''
          go_wp2_with fail
          refine wp_region_quiet_lit (by kernel_rfl) (by kernel_rfl) ?_
          repeat (first | go_big_quiet_step (fail) | quiet_step (fail))
          refine wpQuiet_nil ?_
          intro _ hw'
          obtain ⟨nq2, hw''⟩ := hw'
          subst hw''
          go_wp2_with fail
          obtain ⟨W9, hW9⟩ : ∃ W9, (W.drewN nq1).drewN nq2 = W9 := ⟨_, rfl⟩
          have ho9 : Only [] W W9 := by rw [← hW9]; first | exact drew_of W _ | exact (drew_of W _).drewN _
          have H9 := Lib.hid (HA.out.same ho9)
          have d0 := H9.out.box.cell 0 _ rfl
          have d1 := H9.out.box.cell 1 _ rfl
          have d2 := H9.out.box.cell 2 _ rfl
          have c1 := H9.out.tr.cells.cell 1 _ rfl
          have c3 := H9.out.tr.cells.cell 3 _ rfl
          have c4 := H9.out.tr.cells.cell 4 _ rfl
          rw [hW9]
          have HO9 := Lib.hid ho9
          clear hW9 ho9
          obtain ⟨w2, hput, hT2, ho2⟩ := (H9.out.tr.same (Only.refl [] W9).drew).slp1 h hh false
          have HT2 := Lib.hid hT2
          have HO2 := Lib.hid ho2
          clear hT2 ho2
          go_still_tail 6, (by kernel_rfl)
          go_wp2_with fail
          go_wp2
          go_ret
          exact ⟨rfl, HS5.out _ (by simp) _ ((HO9.out.drew.mono (by simp)).trans HO2.out (fun y hy _ => hy)), fun _ => by rw [HTT.out]; exact HT2.out⟩
      · have g6 : ((wh : Int) == 6) = false := by simp; omega
        have he : doF p s wh h t o = takeF p s wh h t o := by unfold doF; rw [if_neg w4, if_neg w5, if_neg w6]
        have he2 : doT s wh h t = takeT s h t := by unfold doT; rw [if_neg w4, if_neg w5, if_neg w6]
        have htl : t < p.length := by rcases ht with ⟨h | h, _⟩ | h; exact absurd h w5; exact absurd h w6; exact h
        rw [he, he2]
        have HC := Lib.hid (fun (W' : World) (ho : Only [] W W') => trace_take wh h t o T a1 a2 a3 a4 pv s p W' (HA.out.same ho).tr (HP.out.same ho) hh htl h30 (hn t))
        obtain ⟨F, hF⟩ : ∃ F, takeF p s wh h t o = F := ⟨_, rfl⟩
        rw [hF] at HC ⊢
        have d3 := HA.out.box.cell 3 _ rfl
        clear he he2 hF hx hy hz w4 w5 w6 ht htl hn
        go_enter Tryd.func36, Tryd.ntmps36
        go_wp2_with fail
        rw [HW.out]
        refine wp_region_quiet_lit (by kernel_rfl) (by kernel_rfl) ?_
        repeat (first | go_big_quiet_step (fail) | quiet_step (fail))
        refine wpQuiet_nil ?_
        intro _ hw'
        obtain ⟨nq1, hw''⟩ := hw'
        subst hw''
        go_wp2_with fail
        refine (HC.out _ (drew_of W _)).mono ?_
        rintro e w2 ⟨rfl, ho2, hT2⟩
        have HT2 := Lib.hid hT2
        have HO2 := Lib.hid ho2
        clear hT2 ho2
        go_wp2
        go_ret
        exact ⟨rfl, HS5.out _ (by simp) _ (((drew_of W _).mono (by simp)).trans HO2.out (fun y hy _ => hy)), HT2.out⟩

end Go.Proofs.YtoofalchkedciaaDoor
