/-
  Contracts of trace's state: do.
  Contracts of package trace: whole.
  Contract of greedy.Hands.
  What is wrong with a plan, and hands.
  Contract of trace.Check.
-/
import Derived.Test.YtoofalchkedciaaGreatDoorP17TopGang
import Derived.Test.YtoofalchkedciaaGreatDoorP14TopGang
import Derived.Test.YtoofalchkedciaaGreatDoorP8TopGang
import Derived.Test.YtoofalchkedciaaGreatDoorP1TopGang
import Derived.Test.YtoofalchkedciaaGreatDoorRows
namespace Go.Proofs.YtoofalchkedciaaGreatDoor
open Go.RowKit Go.Deep Go.Maps

theorem TrAt.slp1 {w : World} {T a1 a2 a3 a4 : Nat} {pv : Value} {s : TSt} (h : TrAt w T a1 a2 a3 a4 pv s) (k : Nat) (hk : k ≤ 1000) (v : Bool) :
    ∃ w', (Instr.mapUpdate 115 (.map (some a4)) (.int .i64 (k : Int)) (.bool v)).run Tryz.prog w = .ok () w' ∧ TrAt w' T a1 a2 a3 a4 pv ⟨s.has, s.had, s.fin, setB s.slp k v⟩ ∧ Only [a4] w w' := by
  obtain ⟨w', h1, h2, h3⟩ := h.slp.put k hk v
  have hnd := h.nd
  simp only [List.nodup_cons, List.mem_cons, List.not_mem_nil, or_false, not_or, not_false_eq_true, List.nodup_nil, and_true] at hnd
  obtain ⟨⟨n1, n2, n3, n4⟩, ⟨n5, n6, n7⟩, ⟨n8, n9⟩, n10⟩ := hnd
  exact ⟨w', h1, ⟨h.cells.only h3 (by simpa using n4), h.has.only h3 (by simpa using n7), h.had.only h3 (by simpa using n9), h.fin.only h3 (by simpa using n10), h2, h.nd⟩, h3⟩
theorem TrAt.fin1 {w : World} {T a1 a2 a3 a4 : Nat} {pv : Value} {s : TSt} (h : TrAt w T a1 a2 a3 a4 pv s) (k : Nat) (hk : k ≤ 1000) (v : Bool) :
    ∃ w', (Instr.mapUpdate 115 (.map (some a3)) (.int .i64 (k : Int)) (.bool v)).run Tryz.prog w = .ok () w' ∧ TrAt w' T a1 a2 a3 a4 pv ⟨s.has, s.had, setB s.fin k v, s.slp⟩ ∧ Only [a3] w w' := by
  obtain ⟨w', h1, h2, h3⟩ := h.fin.put k hk v
  have hnd := h.nd
  simp only [List.nodup_cons, List.mem_cons, List.not_mem_nil, or_false, not_or, not_false_eq_true, List.nodup_nil, and_true] at hnd
  obtain ⟨⟨n1, n2, n3, n4⟩, ⟨n5, n6, n7⟩, ⟨n8, n9⟩, n10⟩ := hnd
  exact ⟨w', h1, ⟨h.cells.only h3 (by simpa using n3), h.has.only h3 (by simpa using n6), h.had.only h3 (by simpa using n8), h2, h.slp.only h3 (by simpa using fun e => n10 e.symm), h.nd⟩, h3⟩
theorem TrAt.has0 {w : World} {T a1 a2 a3 a4 : Nat} {pv : Value} {s : TSt} (h : TrAt w T a1 a2 a3 a4 pv s) (k : Nat) (hk : k ≤ 1000) (ty : TypeId) :
    ∃ w', (Builtin.delete_ #[114, 3] ty #[.map (some a1), .int .i64 (k : Int)]).run Tryz.prog w = .ok (.tuple #[]) w' ∧ TrAt w' T a1 a2 a3 a4 pv ⟨setO s.has k none, s.had, s.fin, s.slp⟩ ∧ Only [a1] w w' := by
  obtain ⟨w', h1, h2, h3⟩ := h.has.drop k hk ty
  have hnd := h.nd
  simp only [List.nodup_cons, List.mem_cons, List.not_mem_nil, or_false, not_or, not_false_eq_true, List.nodup_nil, and_true] at hnd
  obtain ⟨⟨n1, n2, n3, n4⟩, ⟨n5, n6, n7⟩, ⟨n8, n9⟩, n10⟩ := hnd
  exact ⟨w', h1, ⟨h.cells.only h3 (by simpa using n1), h2, h.had.only h3 (by simpa using fun e => n5 e.symm), h.fin.only h3 (by simpa using fun e => n6 e.symm), h.slp.only h3 (by simpa using fun e => n7 e.symm), h.nd⟩, h3⟩

/-- What the box holds, and where. -/
theorem do_world {w : World} {T a1 a2 a3 a4 wh h t o : Nat} {pv : Value} {s : TSt} (hT : TrAt w T a1 a2 a3 a4 pv s) (W : World)
    (hW : w.alloc (.cells #[.int .i64 (wh : Int), .int .i64 (h : Int), .int .i64 (t : Int), .int .i64 (o : Int)] 53) = W) :
    TrAt W T a1 a2 a3 a4 pv s ∧ Cells W w.heap.size [.int .i64 (wh : Int), .int .i64 (h : Int), .int .i64 (t : Int), .int .i64 (o : Int)] ∧ Only [] w W ∧ w.heap.size ∉ [a1, a2, a3, a4] := by
  subst hW
  have ho := (Only.refl [] w).alloc (.cells #[.int .i64 (wh : Int), .int .i64 (h : Int), .int .i64 (t : Int), .int .i64 (o : Int)] 53)
  refine ⟨hT.same ho, Cells.new w _ _, ho, ?_⟩
  have h1 := hT.has.lt
  have h2 := hT.had.lt
  have h3 := hT.fin.lt
  have h4 := hT.slp.lt
  simp only [List.mem_cons, List.not_mem_nil, or_false, not_or]
  omega

/-- What a walk of do reads. -/
structure DoAt (W : World) (B T a1 a2 a3 a4 : Nat) (pv : Value) (s : TSt) (wh h t o : Nat) : Prop where
  tr : TrAt W T a1 a2 a3 a4 pv s
  box : Cells W B [.int .i64 (wh : Int), .int .i64 (h : Int), .int .i64 (t : Int), .int .i64 (o : Int)]
  off : B ∉ [a1, a2, a3, a4]
theorem DoAt.same {W W' : World} {B T a1 a2 a3 a4 : Nat} {pv : Value} {s : TSt} {wh h t o : Nat} (d : DoAt W B T a1 a2 a3 a4 pv s wh h t o) (ho : Only [] W W') : DoAt W' B T a1 a2 a3 a4 pv s wh h t o := ⟨d.tr.same ho, d.box.only ho (by simp), d.off⟩

/-- A world that only drew. -/
theorem drew_of (W : World) (n : Nat) : Only [] W (W.drewN n) := (Only.refl [] W).drewN n

set_option maxRecDepth 100000 in
set_option maxHeartbeats 4000000 in
theorem trace_do (wh h t o : Nat) (T a1 a2 a3 a4 : Nat) (pv : Value) (s : TSt) (p : PlanL) (w : World) (hT : TrAt w T a1 a2 a3 a4 pv s) (hP : InPlan w pv p) (hh : h ≤ 1000) (ht : (wh = 5 ∨ wh = 6) ∧ t = 0 ∨ t < p.length) (h30 : p.length ≤ 30) (hn : ∀ t, ∀ k ∈ ndOf p t, 0 ≤ k ∧ k < p.length) :
    Calls Tryz.prog 64 #[.pointer (some ⟨T, 0, none⟩), .agg #[.int .i64 (wh : Int), .int .i64 (h : Int), .int .i64 (t : Int), .int .i64 (o : Int)]] w fun e w' =>
      e = .returned (errV (doF p s wh h t o)) ∧ Only [T, a1, a2, a3, a4] w w' ∧ (doF p s wh h t o = 0 → TrAt w' T a1 a2 a3 a4 pv (doT s wh h t)) := by
  obtain ⟨W, hW⟩ : ∃ W, w.alloc (.cells #[.int .i64 (wh : Int), .int .i64 (h : Int), .int .i64 (t : Int), .int .i64 (o : Int)] 53) = W := ⟨_, rfl⟩
  obtain ⟨k1, k2, k3, k4⟩ := do_world hT W hW
  have t1 : t ≤ 1000 := by omega
  have HW := Lib.hid hW
  have HA : Hid (DoAt W w.heap.size T a1 a2 a3 a4 pv s wh h t o) := ⟨k1, k2, k4⟩
  have HP := Lib.hid (hP.same k3)
  have HO := Lib.hid k3
  have HT5 := Lib.hid (fun (W' : World) (ho : Only [] W W') => (k3.trans ho (by simp)).mono (T := [T, a1, a2, a3, a4]) (by simp))
  have HS5 := Lib.hid (fun (S : List Nat) (hs : ∀ x ∈ S, x ∈ [T, a1, a2, a3, a4]) (W' : World) (ho : Only S W W') => (k3.mono (T := [T, a1, a2, a3, a4]) (by simp)).trans ho (fun y hy _ => hs y hy))
  have d0 := k2.cell 0 _ rfl
  have d1 := k2.cell 1 _ rfl
  have d2 := k2.cell 2 _ rfl
  have c1 := k1.cells.cell 1 _ rfl
  have c4 := k1.cells.cell 4 _ rfl
  have l1 := fun n => (k1.has.only (drew_of W n) (by simp)).look h hh
  have l4 := fun n => (k1.slp.only (drew_of W n) (by simp)).look h hh
  clear hT hP hW k1 k2 k3 k4
  obtain ⟨x, hx⟩ : ∃ x, (s.has h).getD 0 = x := ⟨_, rfl⟩
  obtain ⟨y, hy⟩ : ∃ y, (s.has h).isSome = y := ⟨_, rfl⟩
  obtain ⟨z, hz⟩ : ∃ z, s.slp h = z := ⟨_, rfl⟩
  rw [hx, hy] at l1
  rw [hz] at l4
  have hsome : s.has h = some t ↔ (y = true ∧ x = t) := by
    rw [← hx, ← hy]
    cases s.has h with
    | none => simp
    | some u => simp
  by_cases w4 : wh = 4
  · have g4 : ((wh : Int) == 4) = true := by simp; omega
    cases y with
    | false =>
      have he : doF p s wh h t o = 6 := by unfold doF; rw [if_pos w4, if_neg (by rw [hsome]; simp)]
      rw [he]
      have HE := Lib.hid (show ¬ (6 : Int) = 0 by omega)
      clear he w4 hx hy hz hsome
      go_enter Tryz.func64, Tryz.ntmps64
      go_wp2_with fail
      rw [HW.out]
      refine wp_region_quiet_lit (by kernel_rfl) (by kernel_rfl) ?_
      repeat (first | go_big_quiet_step (fail) | quiet_step (fail))
      refine wpQuiet_nil ?_
      intro _ hw'
      obtain ⟨nq1, hw''⟩ := hw'
      subst hw''
      go_wp2
      go_ret
      exact ⟨rfl, HT5.out _ (by first | exact drew_of W _ | exact (drew_of W _).drewN _), fun h => absurd h HE.out⟩
    | true =>
      by_cases hxt : x = t
      · have gx : ((x : Int) != (t : Int)) = false := by simp; omega
        have HTT : Hid (doT s wh h t = ⟨setO s.has h none, s.had, setB s.fin t true, s.slp⟩) := by show _ = _; unfold doT; rw [if_pos w4]
        have he : doF p s wh h t o = 0 := by unfold doF; rw [if_pos w4, if_pos (hsome.2 ⟨rfl, hxt⟩)]
        rw [he]
        clear he hx hy hz hsome w4 hxt
        go_enter Tryz.func64, Tryz.ntmps64
        go_wp2_with fail
        rw [HW.out]
        refine wp_region_quiet_lit (by kernel_rfl) (by kernel_rfl) ?_
        repeat (first | go_big_quiet_step (fail) | quiet_step (fail))
        refine wpQuiet_nil ?_
        intro _ hw'
        obtain ⟨nq1, hw''⟩ := hw'
        subst hw''
        go_wp2_with fail
        obtain ⟨W9, hW9⟩ : ∃ W9, W.drewN nq1 = W9 := ⟨_, rfl⟩
        have ho9 : Only [] W W9 := by rw [← hW9]; first | exact drew_of W _ | exact (drew_of W _).drewN _
        have H9 := Lib.hid (HA.out.same ho9)
        have d0 := H9.out.box.cell 0 _ rfl
        have d1 := H9.out.box.cell 1 _ rfl
        have d2 := H9.out.box.cell 2 _ rfl
        have c1 := H9.out.tr.cells.cell 1 _ rfl
        have c3 := H9.out.tr.cells.cell 3 _ rfl
        have c4 := H9.out.tr.cells.cell 4 _ rfl
        rw [hW9]
        have HO9 := Lib.hid ho9
        clear hW9 ho9
        obtain ⟨w2, hput, hT2, ho2⟩ := (H9.out.tr.same (Only.refl [] W9).drew).has0 h hh 0
        have HT2 := Lib.hid hT2
        have HO2 := Lib.hid ho2
        clear hT2 ho2
        go_still_tail 6, (by kernel_rfl)
        go_wp2_with fail
        have c3 := HT2.out.cells.cell 3 _ rfl
        have hob : Only [a1] W9 w2 := ((Only.refl [a1] W9).drew).trans HO2.out (fun y hy _ => hy)
        have hba : w.heap.size ∉ [a1] := by have := HA.out.off; simp only [List.mem_cons, List.not_mem_nil, or_false, not_or] at this ⊢; exact this.1
        have d2 := (H9.out.box.only hob hba).cell 2 _ rfl
        obtain ⟨w3, hput3, hT3, ho3⟩ := (HT2.out.same (Only.refl [] w2).drew).fin1 t t1 true
        have HT3 := Lib.hid hT3
        have HO3 := Lib.hid ho3
        have HOB := Lib.hid hob
        clear hT3 ho3 hob hba
        go_still_tail 6, (by kernel_rfl)
        go_wp2
        go_ret
        exact ⟨rfl, HS5.out [a1, a3] (by simp) _ ((HO9.out.mono (by simp)).trans (HOB.out.mono (by simp) |>.trans (((Only.refl [a1, a3] w2).drew).trans HO3.out (fun y hy _ => by simp at hy; simp [hy])) (fun y hy _ => hy)) (fun y hy _ => hy)), by first | (rw [HTT.out]; exact HT3.out) | (intro _; rw [HTT.out]; exact HT3.out)⟩
      · have gx : ((x : Int) != (t : Int)) = true := by simp; omega
        have he : doF p s wh h t o = 6 := by unfold doF; rw [if_pos w4, if_neg (by rw [hsome]; simp [hxt])]
        rw [he]
        have HE := Lib.hid (show ¬ (6 : Int) = 0 by omega)
        clear he w4 hxt hx hy hz hsome
        go_enter Tryz.func64, Tryz.ntmps64
        go_wp2_with fail
        rw [HW.out]
        refine wp_region_quiet_lit (by kernel_rfl) (by kernel_rfl) ?_
        repeat (first | go_big_quiet_step (fail) | quiet_step (fail))
        refine wpQuiet_nil ?_
        intro _ hw'
        obtain ⟨nq1, hw''⟩ := hw'
        subst hw''
        go_wp2
        go_ret
        exact ⟨rfl, HT5.out _ (by first | exact drew_of W _ | exact (drew_of W _).drewN _), fun h => absurd h HE.out⟩
  · have g4 : ((wh : Int) == 4) = false := by simp; omega
    clear hsome
    by_cases w5 : wh = 5
    · have g5 : ((wh : Int) == 5) = true := by simp; omega
      cases y with
      | true =>
        have he : doF p s wh h t o = 6 := by unfold doF; rw [if_neg w4, if_pos w5, hy]; rfl
        rw [he]
        have HE := Lib.hid (show ¬ (6 : Int) = 0 by omega)
        clear he w4 w5 hx hy hz
        go_enter Tryz.func64, Tryz.ntmps64
        go_wp2_with fail
        rw [HW.out]
        refine wp_region_quiet_lit (by kernel_rfl) (by kernel_rfl) ?_
        repeat (first | go_big_quiet_step (fail) | quiet_step (fail))
        refine wpQuiet_nil ?_
        intro _ hw'
        obtain ⟨nq1, hw''⟩ := hw'
        subst hw''
        go_wp2_with fail
        refine wp_region_quiet_lit (by kernel_rfl) (by kernel_rfl) ?_
        repeat (first | go_big_quiet_step (fail) | quiet_step (fail))
        refine wpQuiet_nil ?_
        intro _ hw'
        obtain ⟨nq2, hw''⟩ := hw'
        subst hw''
        go_wp2
        go_ret
        exact ⟨rfl, HT5.out _ (by first | exact drew_of W _ | exact (drew_of W _).drewN _), fun h => absurd h HE.out⟩
      | false =>
        cases z with
        | true =>
          have he : doF p s wh h t o = 6 := by unfold doF; rw [if_neg w4, if_pos w5, hy, hz]; rfl
          rw [he]
          have HE := Lib.hid (show ¬ (6 : Int) = 0 by omega)
          clear he w4 w5 hx hy hz
          go_enter Tryz.func64, Tryz.ntmps64
          go_wp2_with fail
          rw [HW.out]
          refine wp_region_quiet_lit (by kernel_rfl) (by kernel_rfl) ?_
          repeat (first | go_big_quiet_step (fail) | quiet_step (fail))
          refine wpQuiet_nil ?_
          intro _ hw'
          obtain ⟨nq1, hw''⟩ := hw'
          subst hw''
          go_wp2_with fail
          refine wp_region_quiet_lit (by kernel_rfl) (by kernel_rfl) ?_
          repeat (first | go_big_quiet_step (fail) | quiet_step (fail))
          refine wpQuiet_nil ?_
          intro _ hw'
          obtain ⟨nq2, hw''⟩ := hw'
          subst hw''
          go_wp2
          go_ret
          exact ⟨rfl, HT5.out _ (by first | exact drew_of W _ | exact (drew_of W _).drewN _), fun h => absurd h HE.out⟩
        | false =>
          have HTT : Hid (doT s wh h t = ⟨s.has, s.had, s.fin, setB s.slp h true⟩) := by show _ = _; unfold doT; rw [if_neg w4, if_pos w5]
          have he : doF p s wh h t o = 0 := by unfold doF; rw [if_neg w4, if_pos w5, hy, hz]; rfl
          rw [he]
          clear he w4 w5 hx hy hz
          go_enter Tryz.func64, Tryz.ntmps64
          go_wp2_with fail
          rw [HW.out]
          refine wp_region_quiet_lit (by kernel_rfl) (by kernel_rfl) ?_
          repeat (first | go_big_quiet_step (fail) | quiet_step (fail))
          refine wpQuiet_nil ?_
          intro _ hw'
          obtain ⟨nq1, hw''⟩ := hw'
          subst hw''
          go_wp2_with fail
          refine wp_region_quiet_lit (by kernel_rfl) (by kernel_rfl) ?_
          repeat (first | go_big_quiet_step (fail) | quiet_step (fail))
          refine wpQuiet_nil ?_
          intro _ hw'
          obtain ⟨nq2, hw''⟩ := hw'
          subst hw''
          go_wp2_with fail
          obtain ⟨W9, hW9⟩ : ∃ W9, (W.drewN nq1).drewN nq2 = W9 := ⟨_, rfl⟩
          have ho9 : Only [] W W9 := by rw [← hW9]; first | exact drew_of W _ | exact (drew_of W _).drewN _
          have H9 := Lib.hid (HA.out.same ho9)
          have d0 := H9.out.box.cell 0 _ rfl
          have d1 := H9.out.box.cell 1 _ rfl
          have d2 := H9.out.box.cell 2 _ rfl
          have c1 := H9.out.tr.cells.cell 1 _ rfl
          have c3 := H9.out.tr.cells.cell 3 _ rfl
          have c4 := H9.out.tr.cells.cell 4 _ rfl
          rw [hW9]
          have HO9 := Lib.hid ho9
          clear hW9 ho9
          obtain ⟨w2, hput, hT2, ho2⟩ := (H9.out.tr.same (Only.refl [] W9).drew).slp1 h hh true
          have HT2 := Lib.hid hT2
          have HO2 := Lib.hid ho2
          clear hT2 ho2
          go_still_tail 6, (by kernel_rfl)
          go_wp2_with fail
          go_wp2
          go_ret
          exact ⟨rfl, HS5.out _ (by simp) _ ((HO9.out.drew.mono (by simp)).trans HO2.out (fun y hy _ => hy)), fun _ => by rw [HTT.out]; exact HT2.out⟩
    · have g5 : ((wh : Int) == 5) = false := by simp; omega
      by_cases w6 : wh = 6
      · have g6 : ((wh : Int) == 6) = true := by simp; omega
        cases z with
        | false =>
          have he : doF p s wh h t o = 6 := by unfold doF; rw [if_neg w4, if_neg w5, if_pos w6, hz]; rfl
          rw [he]
          have HE := Lib.hid (show ¬ (6 : Int) = 0 by omega)
          clear he w4 w5 w6 hx hy hz
          go_enter Tryz.func64, Tryz.ntmps64
          go_wp2_with fail
          rw [HW.out]
          refine wp_region_quiet_lit (by kernel_rfl) (by kernel_rfl) ?_
          repeat (first | go_big_quiet_step (fail) | quiet_step (fail))
          refine wpQuiet_nil ?_
          intro _ hw'
          obtain ⟨nq1, hw''⟩ := hw'
          subst hw''
          go_wp2_with fail
          refine wp_region_quiet_lit (by kernel_rfl) (by kernel_rfl) ?_
          repeat (first | go_big_quiet_step (fail) | quiet_step (fail))
          refine wpQuiet_nil ?_
          intro _ hw'
          obtain ⟨nq2, hw''⟩ := hw'
          subst hw''
          go_wp2
          go_ret
          exact ⟨rfl, HT5.out _ (by first | exact drew_of W _ | exact (drew_of W _).drewN _), fun h => absurd h HE.out⟩
        | true =>
          have HTT : Hid (doT s wh h t = ⟨s.has, s.had, s.fin, setB s.slp h false⟩) := by show _ = _; unfold doT; rw [if_neg w4, if_neg w5, if_pos w6]
          have he : doF p s wh h t o = 0 := by unfold doF; rw [if_neg w4, if_neg w5, if_pos w6, hz]; rfl
          rw [he]
          clear he w4 w5 w6 hx hy hz
          go_enter Tryz.func64, Tryz.ntmps64
          go_wp2_with fail
          rw [HW.out]
          refine wp_region_quiet_lit (by kernel_rfl) (by kernel_rfl) ?_
          repeat (first | go_big_quiet_step (fail) | quiet_step (fail))
          refine wpQuiet_nil ?_
          intro _ hw'
          obtain ⟨nq1, hw''⟩ := hw'
          subst hw''
          go_wp2_with fail
          refine wp_region_quiet_lit (by kernel_rfl) (by kernel_rfl) ?_
          repeat (first | go_big_quiet_step (fail) | quiet_step (fail))
          refine wpQuiet_nil ?_
          intro _ hw'
          obtain ⟨nq2, hw''⟩ := hw'
          subst hw''
          go_wp2_with fail
          obtain ⟨W9, hW9⟩ : ∃ W9, (W.drewN nq1).drewN nq2 = W9 := ⟨_, rfl⟩
          have ho9 : Only [] W W9 := by rw [← hW9]; first | exact drew_of W _ | exact (drew_of W _).drewN _
          have H9 := Lib.hid (HA.out.same ho9)
          have d0 := H9.out.box.cell 0 _ rfl
          have d1 := H9.out.box.cell 1 _ rfl
          have d2 := H9.out.box.cell 2 _ rfl
          have c1 := H9.out.tr.cells.cell 1 _ rfl
          have c3 := H9.out.tr.cells.cell 3 _ rfl
          have c4 := H9.out.tr.cells.cell 4 _ rfl
          rw [hW9]
          have HO9 := Lib.hid ho9
          clear hW9 ho9
          obtain ⟨w2, hput, hT2, ho2⟩ := (H9.out.tr.same (Only.refl [] W9).drew).slp1 h hh false
          have HT2 := Lib.hid hT2
          have HO2 := Lib.hid ho2
          clear hT2 ho2
          go_still_tail 6, (by kernel_rfl)
          go_wp2_with fail
          go_wp2
          go_ret
          exact ⟨rfl, HS5.out _ (by simp) _ ((HO9.out.drew.mono (by simp)).trans HO2.out (fun y hy _ => hy)), fun _ => by rw [HTT.out]; exact HT2.out⟩
      · have g6 : ((wh : Int) == 6) = false := by simp; omega
        have he : doF p s wh h t o = takeF p s wh h t o := by unfold doF; rw [if_neg w4, if_neg w5, if_neg w6]
        have he2 : doT s wh h t = takeT s h t := by unfold doT; rw [if_neg w4, if_neg w5, if_neg w6]
        have htl : t < p.length := by rcases ht with ⟨h | h, _⟩ | h; exact absurd h w5; exact absurd h w6; exact h
        rw [he, he2]
        have HC := Lib.hid (fun (W' : World) (ho : Only [] W W') => trace_take wh h t o T a1 a2 a3 a4 pv s p W' (HA.out.same ho).tr (HP.out.same ho) hh htl h30 (hn t))
        obtain ⟨F, hF⟩ : ∃ F, takeF p s wh h t o = F := ⟨_, rfl⟩
        rw [hF] at HC ⊢
        have d3 := HA.out.box.cell 3 _ rfl
        clear he he2 hF hx hy hz w4 w5 w6 ht htl hn
        go_enter Tryz.func64, Tryz.ntmps64
        go_wp2_with fail
        rw [HW.out]
        refine wp_region_quiet_lit (by kernel_rfl) (by kernel_rfl) ?_
        repeat (first | go_big_quiet_step (fail) | quiet_step (fail))
        refine wpQuiet_nil ?_
        intro _ hw'
        obtain ⟨nq1, hw''⟩ := hw'
        subst hw''
        go_wp2_with fail
        refine (HC.out _ (drew_of W _)).mono ?_
        rintro e w2 ⟨rfl, ho2, hT2⟩
        have HT2 := Lib.hid hT2
        have HO2 := Lib.hid ho2
        clear hT2 ho2
        go_wp2
        go_ret
        exact ⟨rfl, HS5.out _ (by simp) _ (((drew_of W _).mono (by simp)).trans HO2.out (fun y hy _ => hy)), HT2.out⟩

end Go.Proofs.YtoofalchkedciaaGreatDoor

namespace Go.Proofs.YtoofalchkedciaaGreatDoor
open Go.RowKit Go.Deep

set_option maxRecDepth 100000 in
theorem trace_alone (n : Int) (w : World) :
    Calls Tryz.prog 63 #[.int .i64 n] w fun e w' => e = .returned (.bool (aloneB n)) ∧ w = w' := by
  by_cases h1 : n = 5
  · subst h1
    go_enter Tryz.func63, Tryz.ntmps63
    go_wp2
    go_ret
    exact ⟨rfl, rfl⟩
  · have h5 : (n == 5) = false := by simpa using h1
    obtain ⟨b, hb⟩ : ∃ b, (n == 6) = b := ⟨_, rfl⟩
    have e : aloneB n = b := by rw [← hb]; unfold aloneB; by_cases h6 : n = 6 <;> simp [h1, h6]
    rw [e]
    clear e h1
    go_enter Tryz.func63, Tryz.ntmps63
    go_wp2
    go_ret
    exact ⟨rfl, rfl⟩

set_option maxRecDepth 100000 in
set_option maxHeartbeats 4000000 in
theorem trace_whole (v : Value) (l : List Dd) (w : World) (hv : DeedsAt w v l) (hl : l.length ≤ 9223372036854775807) :
    Calls Tryz.prog 62 #[v] w fun e w' => e = .returned (errV (ddsFault l)) ∧ Only [] w w' := by
  obtain ⟨a, cap, rfl, hc⟩ := hv.opt
  obtain ⟨n, hn⟩ : ∃ n, l.length = n := ⟨_, rfl⟩
  have HN := Lib.hid hn
  have HC := Lib.hid hc
  rw [hn] at HC hl ⊢
  clear hc hv
  by_cases hbig : 1000 < n
  · have e : ddsFault l = 4 := by unfold ddsFault; rw [if_pos (by omega)]
    rw [e, errV_ne (by decide)]
    clear e hn
    go_enter Tryz.func62, Tryz.ntmps62
    go_wp2
    go_ret
    exact ⟨rfl, Only.refl _ _⟩
  · have e : ddsFault l = firstDd l := by unfold ddsFault; rw [if_neg (by omega)]
    obtain ⟨E, hE⟩ : ∃ E, firstDd l = E := ⟨_, rfl⟩
    rw [e, hE]
    have HE := Lib.hid hE
    clear e hn hE
    go_enter Tryz.func62, Tryz.ntmps62
    go_wp2_with fail
    go_loopw [12] (fun vi wr => ∃ i : Nat, i ≤ n ∧ vi = .int .i64 i ∧ firstDd (l.drop i) = E ∧ Only [] w wr) (fun vi _ => n - (intOf vi).toNat)
    case atStart => exact ⟨0, Nat.zero_le _, rfl, HE.out, Only.refl _ _⟩
    case round =>
      obtain ⟨i, hi, rfl, hd, ho⟩ := hrel
      by_cases him : i < n
      · obtain ⟨b, off, rfl, k0, k1, k2, k3⟩ := HC.out i him
        have c0 := (ho.cell (p := ⟨b, _, none⟩) (cell_lt k0) (by simp)).trans k0
        have c1 := (ho.cell (p := ⟨b, _, none⟩) (cell_lt k1) (by simp)).trans k1
        have c2 := (ho.cell (p := ⟨b, _, none⟩) (cell_lt k2) (by simp)).trans k2
        have c3 := (ho.cell (p := ⟨b, _, none⟩) (cell_lt k3) (by simp)).trans k3
        rw [firstDd_drop l i (by rw [HN.out]; exact him)] at hd
        have HO := Lib.hid ho
        clear k0 k1 k2 k3 ho
        generalize ddAt l i = d at *
        have hcs := dd_three d
        have hr := @dd_range d
        have hs := @dd_shape d
        have hg := @dd_right d
        obtain ⟨dw, dh, dt, dr⟩ := d
        simp only at c0 c1 c2 c3 hr hs hg
        have hal := Lib.hid (HO.out.alloc (.cells #[.int .i64 dw, .int .i64 dh, .int .i64 dt, .int .i64 dr] 53))
        have HD := Lib.hid hd
        clear hd
        rcases hcs with h | h | h
        · have hE1 := Lib.hid (show E = 1 by rw [← HD.out, if_neg (by rw [h]; decide)]; exact h)
          have hx := hr h
          clear hr hs hg h HD
          rcases hx with h1 | ⟨h1, h2⟩ | ⟨h1, h2, h3⟩ | ⟨h1, h2, h3, h4⟩ | ⟨h1, h2, h3, h4, h5⟩ | ⟨h1, h2, h3, h4, h5, h6⟩ | ⟨h1, h3, h4, h5, h6, h7⟩ | ⟨h1, h3, h4, h5, h6, h7, h8⟩
          all_goals first | subst h1 | skip
          all_goals
            go_wp2
            go_ret
            exact ⟨by rw [hE1.out]; rfl, hal.out⟩
        · have hE3 := Lib.hid (show E = 3 by rw [← HD.out, if_neg (by rw [h]; decide)]; exact h)
          obtain ⟨h1, h2, h3, h4, h5, h6, hx⟩ := hs h
          clear hr hs hg h HD
          rcases hx with ⟨h7, h8⟩ | ⟨rfl, rfl, h9⟩ | ⟨rfl, rfl, h9⟩
          · have e2 : (dw == 2) = false := by simpa using h7
            have e0 : (dr != 0) = true := by simpa using h8
            go_wp2_with fail
            go_ret
            exact ⟨by rw [hE3.out]; rfl, hal.out⟩
          all_goals
            have e0 : (dt != 0) = true := by simpa using h9
            have hal1 := trace_alone
            go_wp2_with fail
            refine (trace_alone _ _).mono ?_
            rintro e w1 ⟨rfl, rfl⟩
            go_wp2
            go_ret
            exact ⟨by rw [hE3.out]; rfl, hal.out⟩
        · have hE0 := Lib.hid (show firstDd (l.drop (i + 1)) = E by rw [← HD.out, if_pos h])
          obtain ⟨h1, h2, h3, h4, h5, h6, hx⟩ := hg h
          clear hr hs hg h HD
          rcases hx with ⟨rfl, h7, h8⟩ | ⟨rfl, rfl, rfl⟩ | ⟨rfl, rfl, rfl⟩ | ⟨e2, e5, e6, rfl⟩
          · go_wp2_with fail
            refine (trace_alone _ _).mono ?_
            rintro e w1 ⟨rfl, rfl⟩
            go_wp2
            go_roundw
            case rel => exact ⟨i + 1, by omega, by go_num, hE0.out, hal.out⟩
            case measure => (simp [intOf]; try omega)
          · go_wp2_with fail
            refine (trace_alone _ _).mono ?_
            rintro e w1 ⟨rfl, rfl⟩
            go_wp2
            go_roundw
            case rel => exact ⟨i + 1, by omega, by go_num, hE0.out, hal.out⟩
            case measure => (simp [intOf]; try omega)
          · go_wp2_with fail
            refine (trace_alone _ _).mono ?_
            rintro e w1 ⟨rfl, rfl⟩
            go_wp2
            go_roundw
            case rel => exact ⟨i + 1, by omega, by go_num, hE0.out, hal.out⟩
            case measure => (simp [intOf]; try omega)
          · have e2' : (dw == 2) = false := by simpa using e2
            have ha : aloneB dw = false := by simp [aloneB, e5, e6]
            have hcl := fun W => trace_alone dw W
            rw [ha] at hcl
            clear ha
            go_wp2_with fail
            refine (hcl _).mono ?_
            rintro e w1 ⟨rfl, rfl⟩
            go_wp2
            go_roundw
            case rel => exact ⟨i + 1, by omega, by go_num, hE0.out, hal.out⟩
            case measure => (simp [intOf]; try omega)
      · obtain rfl : i = n := by omega
        have e : E = 0 := by rw [← hd, List.drop_of_length_le (by rw [HN.out]; exact Nat.le_refl _)]; rfl
        go_wp2
        go_ret
        exact ⟨by rw [e]; rfl, ho⟩

end Go.Proofs.YtoofalchkedciaaGreatDoor

namespace Go.Proofs.YtoofalchkedciaaGreatDoor
open Go.RowKit

theorem hands_yes (n : Int) (w : World) (h1 : 1 ≤ n) (h2 : n ≤ 6) :
    Calls Tryz.prog 61 #[.int .i64 n] w fun e w' => e = .returned (.bool true) ∧ w = w' := by
  go_enter Tryz.func61, Tryz.ntmps61
  go_wp2
  go_ret
  exact ⟨by simp, rfl⟩

theorem hands_no (n : Int) (w : World) (h : n < 1 ∨ 6 < n) :
    Calls Tryz.prog 61 #[.int .i64 n] w fun e w' => e = .returned (.bool false) ∧ w = w' := by
  rcases h with h | h
  · go_enter Tryz.func61, Tryz.ntmps61
    go_wp2
    go_ret
    exact ⟨rfl, rfl⟩
  · have h1 : 1 ≤ n := by omega
    go_enter Tryz.func61, Tryz.ntmps61
    go_wp2
    go_ret
    exact ⟨by simp; omega, rfl⟩
end Go.Proofs.YtoofalchkedciaaGreatDoor

namespace Go.Proofs.YtoofalchkedciaaGreatDoor
open Go.RowKit Go.Deep

/-- What is wrong with a plan, and hands. -/
noncomputable def hErr (p : PlanL) (hands : Int) : Int := if planFault p = 0 then (if 1 ≤ hands ∧ hands ≤ 6 then 0 else 1) else planFault p

theorem hErr_ok {p : PlanL} {hands : Int} (h : PlanOk p) (h1 : 1 ≤ hands) (h6 : hands ≤ 6) : hErr p hands = 0 := by
  unfold hErr; rw [if_pos ((planOk_iff p).1 h), if_pos ⟨h1, h6⟩]
theorem hErr_zero {p : PlanL} {hands : Int} (h : hErr p hands = 0) : PlanOk p ∧ 1 ≤ hands ∧ hands ≤ 6 := by
  unfold hErr at h
  by_cases hp : planFault p = 0
  · rw [if_pos hp] at h
    by_cases hh : 1 ≤ hands ∧ hands ≤ 6
    · exact ⟨(planOk_iff p).2 hp, hh⟩
    · rw [if_neg hh] at h; cases h
  · rw [if_neg hp] at h; exact absurd h hp

end Go.Proofs.YtoofalchkedciaaGreatDoor

namespace Go.Proofs.YtoofalchkedciaaGreatDoor
open Go.RowKit Go.Deep Go.Maps

/-- A deed of a hand, of a task that are not there. -/
def ddOut (n : Nat) (hands : Int) (d : Dd) : Bool := decide (hands ≤ d.hand) || (decide (hands ≤ d.other) || (!aloneB d.what && decide ((n : Int) ≤ d.task)))
def dF (p : PlanL) (s : TSt) (d : Dd) : Int := doF p s d.what.toNat d.hand.toNat d.task.toNat d.other.toNat
def dT (s : TSt) (d : Dd) : TSt := doT s d.what.toNat d.hand.toNat d.task.toNat
/-- What is wrong with deeds that are done from s on. -/
def runF (p : PlanL) (hands : Int) : TSt → List Dd → Int
  | _, [] => 0
  | s, d :: l => if ddOut p.length hands d = true then 1 else if dF p s d = 0 then runF p hands (dT s d) l else dF p s d
def tZero : TSt := ⟨fun _ => none, fun _ => false, fun _ => false, fun _ => false⟩
/-- What is wrong with a plan, hands and deeds. -/
noncomputable def checkF (p : PlanL) (hands : Int) (l : List Dd) : Int := if hErr p hands ≠ 0 then hErr p hands else if ddsFault l ≠ 0 then ddsFault l else runF p hands tZero l

theorem runF_drop (p : PlanL) (hands : Int) (s : TSt) (l : List Dd) (i : Nat) (h : i < l.length) : runF p hands s (l.drop i) = if ddOut p.length hands (ddAt l i) = true then 1 else if dF p s (ddAt l i) = 0 then runF p hands (dT s (ddAt l i)) (l.drop (i + 1)) else dF p s (ddAt l i) := by
  rw [List.drop_eq_getElem_cons h]
  simp [runF, ddAt, h]

/-- A right deed in small numbers. -/
theorem dd_nat {d : Dd} (h : ddFault d = 0) : ∃ wh hd t o : Nat, d = ⟨(wh : Int), (hd : Int), (t : Int), (o : Int)⟩ ∧ hd < 6 ∧ o < 6 ∧ t < 30 ∧ (aloneB (wh : Int) = true → (wh = 5 ∨ wh = 6) ∧ t = 0) := by
  obtain ⟨h1, h2, h3, h4, h5, h6, h7⟩ := dd_right h
  obtain ⟨a, b, c, e⟩ := d
  simp only at h1 h2 h3 h4 h5 h6 h7
  refine ⟨a.toNat, b.toNat, c.toNat, e.toNat, ?_, by omega, by omega, by omega, ?_⟩
  · rw [Int.toNat_of_nonneg (by omega), Int.toNat_of_nonneg (by omega), Int.toNat_of_nonneg (by omega), Int.toNat_of_nonneg (by omega)]
  · intro ha
    have : a = 5 ∨ a = 6 := by
      rw [Int.toNat_of_nonneg (by omega)] at ha
      simpa [aloneB] using ha
    omega

/-- The state that Check lays. -/
theorem check_world (w : World) (pv : Value) :
    TrAt (((((w.alloc (.map #[] 0)).alloc (.map #[] 0)).alloc (.map #[] 0)).alloc (.map #[] 0)).alloc (.cells #[pv, .map (some w.heap.size), .map (some (w.heap.size + 1)), .map (some (w.heap.size + 1 + 1)), .map (some (w.heap.size + 1 + 1 + 1))] 117))
      (w.heap.size + 1 + 1 + 1 + 1) w.heap.size (w.heap.size + 1) (w.heap.size + 1 + 1) (w.heap.size + 1 + 1 + 1) pv tZero ∧
    Only [] w (((((w.alloc (.map #[] 0)).alloc (.map #[] 0)).alloc (.map #[] 0)).alloc (.map #[] 0)).alloc (.cells #[pv, .map (some w.heap.size), .map (some (w.heap.size + 1)), .map (some (w.heap.size + 1 + 1)), .map (some (w.heap.size + 1 + 1 + 1))] 117)) := by
  have o : ∀ (u : World) (x : Obj), Only [] u (u.alloc x) := fun u x => (Only.refl [] u).alloc x
  have s1 : (w.alloc (.map #[] 0)).heap.size = w.heap.size + 1 := by simp
  have s2 : ((w.alloc (.map #[] 0)).alloc (.map #[] 0)).heap.size = w.heap.size + 1 + 1 := by simp
  have s3 : (((w.alloc (.map #[] 0)).alloc (.map #[] 0)).alloc (.map #[] 0)).heap.size = w.heap.size + 1 + 1 + 1 := by simp
  have s4 : ((((w.alloc (.map #[] 0)).alloc (.map #[] 0)).alloc (.map #[] 0)).alloc (.map #[] 0)).heap.size = w.heap.size + 1 + 1 + 1 + 1 := by simp
  have m1 := IntMap.made w
  have m2 := BoolMap.made (w.alloc (.map #[] 0))
  have m3 := BoolMap.made ((w.alloc (.map #[] 0)).alloc (.map #[] 0))
  have m4 := BoolMap.made (((w.alloc (.map #[] 0)).alloc (.map #[] 0)).alloc (.map #[] 0))
  rw [s1] at m2
  rw [s2] at m3
  rw [s3] at m4
  have cc := Cells.new ((((w.alloc (.map #[] 0)).alloc (.map #[] 0)).alloc (.map #[] 0)).alloc (.map #[] 0)) #[pv, .map (some w.heap.size), .map (some (w.heap.size + 1)), .map (some (w.heap.size + 1 + 1)), .map (some (w.heap.size + 1 + 1 + 1))] 117
  rw [s4] at cc
  refine ⟨⟨cc, ?_, ?_, ?_, ?_, ?_⟩, ((((o _ _).trans (o _ _) (by simp)).trans (o _ _) (by simp)).trans (o _ _) (by simp)).trans (o _ _) (by simp)⟩
  · exact (((m1.only (o _ _) (by simp)).only (o _ _) (by simp)).only (o _ _) (by simp)).only (o _ _) (by simp)
  · exact ((m2.only (o _ _) (by simp)).only (o _ _) (by simp)).only (o _ _) (by simp)
  · exact (m3.only (o _ _) (by simp)).only (o _ _) (by simp)
  · exact m4.only (o _ _) (by simp)
  · simp; omega

set_option maxRecDepth 100000 in
set_option maxHeartbeats 4000000 in
theorem trace_Check_run (v u : Value) (p : PlanL) (hands : Int) (l : List Dd) (w : World) (hP : InPlan w v p) (hv : DeedsAt w u l) (he : hErr p hands = 0) (hf : ddsFault l = 0) :
    Calls Tryz.prog 24 #[v, .int .i64 hands, u] w fun e w' => e = .returned (errV (runF p hands tZero l)) ∧ Only [] w w' := by
  have hl : l.length ≤ 1000 := by
    unfold ddsFault at hf
    split at hf
    · simp at hf
    · omega
  have hall : ∀ d ∈ l, ddFault d = 0 := by
    unfold ddsFault at hf
    rw [if_neg (by omega)] at hf
    exact (firstDd_zero l).1 hf
  have hwh := fun W (ho : Only [] w W) => trace_whole u l W (hv.same ho) (by omega)
  rw [hf, errV_zero] at hwh
  have HWH := Lib.hid hwh
  have hr := plan_Right v p w hP
  obtain ⟨hok, h1, h6⟩ := hErr_zero he
  rw [(planOk_iff p).1 hok, errV_zero] at hr
  have HY := Lib.hid (fun W => hands_yes hands W h1 h6)
  have HP := Lib.hid hP
  have HALL := Lib.hid hall
  have HND := Lib.hid (show ∀ t, ∀ k ∈ ndOf p t, 0 ≤ k ∧ k < p.length from fun t k hk => by
    by_cases ht : t < p.length
    · exact (taskFault_zero (hok.fault t ht)).2.2.1 k hk
    · rw [ndOf_none p t (by omega)] at hk; cases hk)
  have h30 := hok.len
  obtain ⟨pa, pc, rfl, hpc, hpm, _⟩ := hP.task
  obtain ⟨a, cap, rfl, hc⟩ := hv.opt
  obtain ⟨n, hn⟩ : ∃ n, l.length = n := ⟨_, rfl⟩
  obtain ⟨m, hm⟩ : ∃ m, p.length = m := ⟨_, rfl⟩
  have HN := Lib.hid hn
  have HM := Lib.hid hm
  have HC := Lib.hid hc
  rw [hn] at HC hl HWH ⊢
  rw [hm] at HP hr h30 hpc ⊢
  obtain ⟨E, hE⟩ : ∃ E, runF p hands tZero l = E := ⟨_, rfl⟩
  have HE := Lib.hid hE
  rw [hE]
  have hmm := @run_makeMap Tryz.prog
  clear hc hv hP hf hok hall hwh hn hm hE he
  go_enter Tryz.func24, Tryz.ntmps24
  go_wp2_with fail
  refine hr.mono ?_
  rintro e w1 ⟨rfl, ho1⟩
  clear hr
  go_wp2_with fail
  refine (HY.out w1).mono ?_
  rintro e w2 ⟨rfl, rfl⟩
  go_wp2_with fail
  refine (HWH.out w1 ho1).mono ?_
  rintro e w3 ⟨rfl, ho3⟩
  have HO3 := Lib.hid (ho1.trans ho3 (by simp))
  clear ho1 ho3 w1
  have hcw := check_world w3 (.slice pa m pc)
  go_wp2_with fail
  obtain ⟨hT0, hoz⟩ := hcw
  have HT0 := Lib.hid hT0
  have HOZ := Lib.hid hoz
  have HLW := Lib.hid HO3.out.size
  have HFR := Lib.hid (fun (W W' : World) (ho : Only [] w W) (ho' : Only [w3.heap.size + 1 + 1 + 1 + 1, w3.heap.size, w3.heap.size + 1, w3.heap.size + 1 + 1, w3.heap.size + 1 + 1 + 1] W W') => ho.trans ho' (fun x hx _ => by have := HLW.out; simp at hx; omega))
  clear hT0 hoz hmm
  go_loopw [36] (fun vi wr => ∃ (i : Nat) (s : TSt), i ≤ n ∧ vi = .int .i64 i ∧ runF p hands s (l.drop i) = E ∧ TrAt wr (w3.heap.size + 1 + 1 + 1 + 1) w3.heap.size (w3.heap.size + 1) (w3.heap.size + 1 + 1) (w3.heap.size + 1 + 1 + 1) (.slice pa m pc) s ∧ Only [] w wr) (fun vi _ => n - (intOf vi).toNat)
  case atStart => exact ⟨0, tZero, Nat.zero_le _, rfl, HE.out, HT0.out, HO3.out.trans HOZ.out (by simp)⟩
  case round =>
    obtain ⟨wo, rfl⟩ : ∃ wo : World, wo = wr := ⟨_, rfl⟩
    obtain ⟨i, s, hi, rfl, hd, hT, ho⟩ := hrel
    have HT := Lib.hid hT
    by_cases him : i < n
    · obtain ⟨b, off, rfl, k0, k1, k2, k3⟩ := HC.out i him
      have c0 := (ho.cell (p := ⟨b, _, none⟩) (cell_lt k0) (by simp)).trans k0
      have c1 := (ho.cell (p := ⟨b, _, none⟩) (cell_lt k1) (by simp)).trans k1
      have c2 := (ho.cell (p := ⟨b, _, none⟩) (cell_lt k2) (by simp)).trans k2
      have c3 := (ho.cell (p := ⟨b, _, none⟩) (cell_lt k3) (by simp)).trans k3
      rw [runF_drop p hands s l i (by rw [HN.out]; exact him), HM.out] at hd
      have hz := HALL.out _ (ddAt_mem (by rw [HN.out]; exact him : i < l.length))
      obtain ⟨wh, h, t, o, hdd, q1, q2, q3, q4⟩ := dd_nat hz
      rw [hdd] at c0 c1 c2 c3 hd
      simp only at c0 c1 c2 c3
      have hd' : (if ddOut m hands ⟨(wh : Int), (h : Int), (t : Int), (o : Int)⟩ = true then (1 : Int) else if doF p s wh h t o = 0 then runF p hands (doT s wh h t) (l.drop (i + 1)) else doF p s wh h t o) = E := hd
      have HD := Lib.hid hd'
      have HO := Lib.hid ho
      have Hal := Lib.hid (ho.alloc (.cells #[.int .i64 (wh : Int), .int .i64 (h : Int), .int .i64 (t : Int), .int .i64 (o : Int)] 53))
      have HTW := Lib.hid (HT.out.same ((Only.refl [] wo).alloc (.cells #[.int .i64 (wh : Int), .int .i64 (h : Int), .int .i64 (t : Int), .int .i64 (o : Int)] 53)))
      have HAL := Lib.hid (fun W => trace_alone (wh : Int) W)
      clear k0 k1 k2 k3 hd hd' ho hT hz hdd
      by_cases b1 : hands ≤ (h : Int)
      · have hE1 := Lib.hid (show E = 1 by rw [← HD.out, if_pos (by simp [ddOut, b1])])
        have b1' : decide (hands ≤ (h : Int)) = true := decide_eq_true b1
        clear b1
        go_wp2
        go_ret
        exact ⟨by rw [hE1.out]; rfl, Hal.out⟩
      · by_cases b2 : hands ≤ (o : Int)
        · have hE1 := Lib.hid (show E = 1 by rw [← HD.out, if_pos (by simp [ddOut, b2])])
          have b1' : decide (hands ≤ (h : Int)) = false := decide_eq_false b1
          have b2' : decide (hands ≤ (o : Int)) = true := decide_eq_true b2
          clear b1 b2
          go_wp2
          go_ret
          exact ⟨by rw [hE1.out]; rfl, Hal.out⟩
        · have b1' : decide (hands ≤ (h : Int)) = false := decide_eq_false b1
          have b2' : decide (hands ≤ (o : Int)) = false := decide_eq_false b2
          obtain ⟨A, hA⟩ : ∃ A, aloneB (wh : Int) = A := ⟨_, rfl⟩
          rw [hA] at HAL q4
          by_cases b3 : A = false ∧ m ≤ t
          · obtain ⟨rfl, b3⟩ := b3
            have hE1 := Lib.hid (show E = 1 by rw [← HD.out, if_pos (by simp [ddOut, hA]; right; right; exact b3)])
            have b3' : decide ((m : Int) ≤ (t : Int)) = true := decide_eq_true (by omega)
            have b3'' : decide (m ≤ t) = true := decide_eq_true b3
            clear b1 b2 hA b3 q4
            go_wp2_with fail
            refine (HAL.out _).mono ?_
            rintro e w5 ⟨rfl, rfl⟩
            go_wp2
            go_ret
            exact ⟨by rw [hE1.out]; rfl, Hal.out⟩
          · have hno : ddOut m hands ⟨(wh : Int), (h : Int), (t : Int), (o : Int)⟩ = false := by
              cases A with
              | true => simp [ddOut, b1, b2, hA]; try omega
              | false => simp at b3; simp [ddOut, b1, b2, hA]; try omega
            have HD2 := Lib.hid (show (if doF p s wh h t o = 0 then runF p hands (doT s wh h t) (l.drop (i + 1)) else doF p s wh h t o) = E by have hh := HD.out; rw [if_neg (by rw [hno]; simp)] at hh; exact hh)
            have htt : (wh = 5 ∨ wh = 6) ∧ t = 0 ∨ t < p.length := by
              rw [HM.out]
              cases A with
              | true => exact .inl (q4 rfl)
              | false => right; simp at b3; omega
            have hguard : A = true ∨ (A = false ∧ decide ((m : Int) ≤ (t : Int)) = false ∧ decide (m ≤ t) = false) := by
              cases A with
              | true => exact .inl rfl
              | false => right; simp at b3 ⊢; omega
            obtain ⟨W, hW⟩ : ∃ W, wo.alloc (.cells #[.int .i64 (wh : Int), .int .i64 (h : Int), .int .i64 (t : Int), .int .i64 (o : Int)] 53) = W := ⟨_, rfl⟩
            have HDO := Lib.hid (trace_do wh h t o _ _ _ _ _ _ s p W (by rw [← hW]; exact HTW.out) (HP.out.same (by rw [← hW]; exact Hal.out)) (by omega) htt (by rw [HM.out]; exact h30) HND.out)
            have HW := Lib.hid hW
            rw [hW] at Hal
            obtain ⟨F, hF⟩ : ∃ F, doF p s wh h t o = F := ⟨_, rfl⟩
            rw [hF] at HDO HD2
            clear b1 b2 hA b3 q4 hno HD htt hW hF HTW HT
            by_cases hF0 : F = 0
            · subst hF0
              have hE2 := Lib.hid (show runF p hands (doT s wh h t) (l.drop (i + 1)) = E by rw [← HD2.out, if_pos rfl])
              have hDO := HDO.out
              rw [errV_zero] at hDO
              have HDO2 := Lib.hid hDO
              clear HD2 HDO hDO
              rcases hguard with rfl | ⟨rfl, b3', b3''⟩
              all_goals
                go_wp2_with fail
                refine (HAL.out _).mono ?_
                rintro e w5 ⟨rfl, rfl⟩
                go_wp2_with fail
                rw [HW.out]
                refine HDO2.out.mono ?_
                rintro e w6 ⟨rfl, ho6, hT6⟩
                have HT6 := Lib.hid (hT6 (by trivial))
                have HO6 := Lib.hid (HFR.out _ _ Hal.out ho6)
                clear ho6 hT6
                go_wp2
                go_roundw
                case rel => exact ⟨i + 1, _, by omega, by go_num, hE2.out, HT6.out, HO6.out⟩
                case measure => (simp [intOf]; try omega)
            · have hE2 := Lib.hid (show E = F by rw [← HD2.out, if_neg hF0])
              have hDO := HDO.out
              rw [errV_ne hF0] at hDO
              have HDO2 := Lib.hid hDO
              have HF0 := Lib.hid hF0
              clear HD2 HDO hDO hF0
              rcases hguard with rfl | ⟨rfl, b3', b3''⟩
              all_goals
                go_wp2_with fail
                refine (HAL.out _).mono ?_
                rintro e w5 ⟨rfl, rfl⟩
                go_wp2_with fail
                rw [HW.out]
                refine HDO2.out.mono ?_
                rintro e w6 ⟨rfl, ho6, hT6⟩
                have HO6 := Lib.hid (HFR.out _ _ Hal.out ho6)
                clear ho6 hT6
                go_wp2
                go_ret
                exact ⟨by rw [hE2.out, errV_ne HF0.out]; rfl, HO6.out⟩
    · obtain rfl : i = n := by omega
      have e : E = 0 := by rw [← hd, List.drop_of_length_le (by rw [HN.out]; exact Nat.le_refl _)]; rfl
      go_wp2
      go_ret
      exact ⟨by rw [e]; rfl, ho⟩

end Go.Proofs.YtoofalchkedciaaGreatDoor
