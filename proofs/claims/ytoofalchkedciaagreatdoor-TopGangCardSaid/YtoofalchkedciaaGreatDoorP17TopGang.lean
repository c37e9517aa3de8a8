/-
  Contracts of trace's state: take, do.
-/
import Derived.Test.YtoofalchkedciaaGreatDoorP14TopGang
import Derived.Test.YtoofalchkedciaaGreatDoorP7TopGang
import Derived.Test.YtoofalchkedciaaGreatDoorP6TopGang
import Derived.Test.YtoofalchkedciaaGreatDoorP16TopGang
namespace Go.Proofs.YtoofalchkedciaaGreatDoor
open Go.RowKit Go.Deep Go.Maps

/-- A deed, in numbers that are small. -/
structure Small? (d : Dd) (wh h t o : Nat) : Prop where
  what : d.what = (wh : Int)
  hand : d.hand = (h : Int)
  task : d.task = (t : Int)
  other : d.other = (o : Int)
  h1 : h ≤ 1000
  t1 : t ≤ 1000

/-- What taking refuses. -/
def takeF (p : PlanL) (s : TSt) (wh h t o : Nat) : Int := if (s.has h).isSome || s.had t then 7 else if s.slp h || (ndOf p t).any (fun k => !s.fin k.toNat) then 6 else if wh = 2 ∧ o = h then 3 else 0
def takeT (s : TSt) (h t : Nat) : TSt := ⟨setO s.has h (some t), setB s.had t true, s.fin, s.slp⟩
def doF (p : PlanL) (s : TSt) (wh h t o : Nat) : Int :=
  if wh = 4 then (if s.has h = some t then 0 else 6) else if wh = 5 then (if (s.has h).isSome || s.slp h then 6 else 0) else if wh = 6 then (if s.slp h then 0 else 6) else takeF p s wh h t o
def doT (s : TSt) (wh h t : Nat) : TSt :=
  if wh = 4 then ⟨setO s.has h none, s.had, setB s.fin t true, s.slp⟩ else if wh = 5 then ⟨s.has, s.had, s.fin, setB s.slp h true⟩ else if wh = 6 then ⟨s.has, s.had, s.fin, setB s.slp h false⟩ else takeT s h t

set_option maxRecDepth 100000 in
theorem trace_take1 (k : Nat) (C T : Nat) (a1 a2 a3 a4 : Nat) (pv : Value) (s : TSt) (w : World) (hc : w.cell? ⟨C, 0, none⟩ = some (.pointer (some ⟨T, 0, none⟩))) (h : TrAt w T a1 a2 a3 a4 pv s) (hk : k ≤ 1000) :
    Calls Tryz.prog 160 #[.int .i64 (k : Int), .pointer (some ⟨C, 0, none⟩)] w fun e w' => e = .returned (.bool (!s.fin k)) ∧ w = w' := by
  have c3 := h.cells.cell 3 _ rfl
  have hl := h.fin.look k hk
  generalize s.fin k = f at *
  clear h
  go_enter Tryz.func160, Tryz.ntmps160
  go_wp2
  go_ret
  exact ⟨rfl, rfl⟩

/-- What the boxes hold, and where. -/
theorem take_world {w : World} {T a1 a2 a3 a4 wh h t o : Nat} {pv : Value} {s : TSt} (hT : TrAt w T a1 a2 a3 a4 pv s) (W : World)
    (hW : (w.alloc (.cells #[.pointer (some ⟨T, 0, none⟩)] 113)).alloc (.cells #[.int .i64 (wh : Int), .int .i64 (h : Int), .int .i64 (t : Int), .int .i64 (o : Int)] 53) = W) :
    TrAt W T a1 a2 a3 a4 pv s ∧ Cells W w.heap.size [.pointer (some ⟨T, 0, none⟩)] ∧ Cells W (w.heap.size + 1) [.int .i64 (wh : Int), .int .i64 (h : Int), .int .i64 (t : Int), .int .i64 (o : Int)] ∧ Only [] w W := by
  subst hW
  have ho := ((Only.refl [] w).alloc (.cells #[.pointer (some ⟨T, 0, none⟩)] 113)).alloc (.cells #[.int .i64 (wh : Int), .int .i64 (h : Int), .int .i64 (t : Int), .int .i64 (o : Int)] 53)
  refine ⟨hT.same ho, (Cells.new w _ _).only ((Only.refl [] _).alloc _) (by simp), ?_, ho⟩
  have := Cells.new (w.alloc (.cells #[.pointer (some ⟨T, 0, none⟩)] 113)) #[.int .i64 (wh : Int), .int .i64 (h : Int), .int .i64 (t : Int), .int .i64 (o : Int)] 53
  simpa using this

set_option maxRecDepth 100000 in
set_option maxHeartbeats 4000000 in
theorem trace_take (wh h t o : Nat) (T a1 a2 a3 a4 : Nat) (pv : Value) (s : TSt) (p : PlanL) (w : World) (hT : TrAt w T a1 a2 a3 a4 pv s) (hP : InPlan w pv p) (hh : h ≤ 1000) (ht : t < p.length) (h30 : p.length ≤ 30) (hn : ∀ k ∈ ndOf p t, 0 ≤ k ∧ k < p.length) :
    Calls Tryz.prog 110 #[.pointer (some ⟨T, 0, none⟩), .agg #[.int .i64 (wh : Int), .int .i64 (h : Int), .int .i64 (t : Int), .int .i64 (o : Int)]] w fun e w' =>
      e = .returned (errV (takeF p s wh h t o)) ∧ Only [T, a1, a2, a3, a4] w w' ∧ (takeF p s wh h t o = 0 → TrAt w' T a1 a2 a3 a4 pv (takeT s h t)) := by
  obtain ⟨W, hW⟩ : ∃ W, (w.alloc (.cells #[.pointer (some ⟨T, 0, none⟩)] 113)).alloc (.cells #[.int .i64 (wh : Int), .int .i64 (h : Int), .int .i64 (t : Int), .int .i64 (o : Int)] 53) = W := ⟨_, rfl⟩
  obtain ⟨k1, k2, k3, k4⟩ := take_world hT W hW
  have t1 : t ≤ 1000 := by omega
  have HW := Lib.hid hW
  have HK := Lib.hid k1
  have HB := Lib.hid k2
  have HD := Lib.hid k3
  have HP := Lib.hid (hP.same k4)
  have HO := Lib.hid k4
  have b0 := k2.cell 0 _ rfl
  have d0 := k3.cell 0 _ rfl
  have d1 := k3.cell 1 _ rfl
  have d2 := k3.cell 2 _ rfl
  have d3 := k3.cell 3 _ rfl
  have c0 := k1.cells.cell 0 _ rfl
  have c1 := k1.cells.cell 1 _ rfl
  have c2 := k1.cells.cell 2 _ rfl
  have c3 := k1.cells.cell 3 _ rfl
  have c4 := k1.cells.cell 4 _ rfl
  have l1 := fun n => (k1.has.only ((Only.refl [] W).drewN n) (by simp)).look h hh
  have l2 := fun n => (k1.had.only ((Only.refl [] W).drewN n) (by simp)).look t t1
  have l4 := fun n => (k1.slp.only ((Only.refl [] W).drewN n) (by simp)).look h hh
  have HLT := Lib.hid (And.intro hT.has.lt hT.had.lt)
  clear hT hP hW k1 k2 k3 k4
  have HRW := Lib.hid (fun n => HO.out.drewN n)
  have hT5 : ∀ n, Only [T, a1, a2, a3, a4] w (W.drewN n) := fun n => (HO.out.drewN n).mono (by simp)
  have HT5 := Lib.hid hT5
  clear hT5
  by_cases hb : ((s.has h).isSome || s.had t) = true
  · have he : takeF p s wh h t o = 7 := by unfold takeF; rw [hb]; rfl
    rw [he]
    have HE := Lib.hid (show ¬ (7 : Int) = 0 by omega)
    obtain ⟨x, hx⟩ : ∃ x, (s.has h).getD 0 = x := ⟨_, rfl⟩
    obtain ⟨y, hy⟩ : ∃ y, (s.has h).isSome = y := ⟨_, rfl⟩
    obtain ⟨z, hz⟩ : ∃ z, s.had t = z := ⟨_, rfl⟩
    rw [hy, hz] at hb
    rw [hx, hy] at l1
    rw [hz] at l2
    clear he hx hy hz l4
    cases y with
    | true =>
      clear hb
      go_enter Tryz.func110, Tryz.ntmps110
      go_wp2_with fail
      rw [HW.out]
      refine wp_region_quiet_lit (by kernel_rfl) (by kernel_rfl) ?_
      repeat (first | go_big_quiet_step (fail) | quiet_step (fail))
      refine wpQuiet_nil ?_
      intro _ hw'
      obtain ⟨nq, hw''⟩ := hw'
      subst hw''
      go_wp2_with fail
      refine wp_region_quiet_lit (by kernel_rfl) (by kernel_rfl) ?_
      repeat (first | go_big_quiet_step (fail) | quiet_step (fail))
      refine wpQuiet_nil ?_
      intro _ hw'
      obtain ⟨nq, hw''⟩ := hw'
      subst hw''
      go_wp2
      go_ret
      exact ⟨rfl, HT5.out _, fun h => absurd h HE.out⟩
    | false =>
      obtain rfl : z = true := by simpa using hb
      clear hb
      go_enter Tryz.func110, Tryz.ntmps110
      go_wp2_with fail
      rw [HW.out]
      refine wp_region_quiet_lit (by kernel_rfl) (by kernel_rfl) ?_
      repeat (first | go_big_quiet_step (fail) | quiet_step (fail))
      refine wpQuiet_nil ?_
      intro _ hw'
      obtain ⟨nq, hw''⟩ := hw'
      subst hw''
      go_wp2_with fail
      refine wp_region_quiet_lit (by kernel_rfl) (by kernel_rfl) ?_
      repeat (first | go_big_quiet_step (fail) | quiet_step (fail))
      refine wpQuiet_nil ?_
      intro _ hw'
      obtain ⟨nq, hw''⟩ := hw'
      subst hw''
      go_wp2
      go_ret
      exact ⟨rfl, HT5.out _, fun h => absurd h HE.out⟩
  · have hb1 : (s.has h).isSome = false := by
      cases e : (s.has h).isSome with
      | false => rfl
      | true => rw [e] at hb; exact absurd rfl hb
    have hb2 : s.had t = false := by
      rw [hb1, Bool.false_or] at hb
      simpa using hb
    rw [hb1] at l1
    rw [hb2] at l2
    obtain ⟨x, hx⟩ : ∃ x, (s.has h).getD 0 = x := ⟨_, rfl⟩
    rw [hx] at l1
    clear hx hb
    obtain ⟨pa, pc, hpv, hpl, hpm, hpt⟩ := HP.out.task
    obtain ⟨pb, po, u, hpa, z0, z1, hrd⟩ := hpt t ht
    subst hpa
    subst hpv
    obtain ⟨ua, uc, rfl, _⟩ := hrd.opt
    cases hs : s.slp h with
    | true =>
      have he : takeF p s wh h t o = 6 := by unfold takeF; rw [hb1, hb2, hs]; rfl
      rw [he]
      rw [hs] at l4
      have HE := Lib.hid (show ¬ (6 : Int) = 0 by omega)
      clear he hb1 hb2 hs hpt hrd
      go_enter Tryz.func110, Tryz.ntmps110
      go_wp2_with fail
      rw [HW.out]
      refine wp_region_quiet_lit (by kernel_rfl) (by kernel_rfl) ?_
      repeat (first | go_big_quiet_step (fail) | quiet_step (fail))
      refine wpQuiet_nil ?_
      intro _ hw'
      obtain ⟨nq, hw''⟩ := hw'
      subst hw''
      go_wp2_with fail
      refine wp_region_quiet_lit (by kernel_rfl) (by kernel_rfl) ?_
      repeat (first | go_big_quiet_step (fail) | quiet_step (fail))
      refine wpQuiet_nil ?_
      intro _ hw'
      obtain ⟨nq, hw''⟩ := hw'
      subst hw''
      go_wp2_with fail
      refine wp_region_quiet_lit (by kernel_rfl) (by kernel_rfl) ?_
      repeat (first | go_big_quiet_step (fail) | quiet_step (fail))
      refine wpQuiet_nil ?_
      intro _ hw'
      obtain ⟨nq, hw''⟩ := hw'
      subst hw''
      go_wp2
      go_ret
      exact ⟨rfl, HT5.out _, fun h => absurd h HE.out⟩
    | false =>
      rw [hs] at l4
      obtain ⟨A, hA⟩ : ∃ A, (ndOf p t).any (fun k => !s.fin k.toNat) = A := ⟨_, rfl⟩
      have HCL := Lib.hid (fun (W' : World) (ho : Only [] W W') => fn_contains 160 (fun _ _ => by kernel_rfl) #[.pointer (some ⟨w.heap.size, 0, none⟩)] _ _ W' (fun k => !s.fin k.toNat) (hrd.same ho) hrd.len
        (fun y hy m => by
          have hyb := hn y hy
          obtain ⟨j, rfl⟩ := Int.eq_ofNat_of_zero_le hyb.1
          have hom := ho.drewN m
          refine (trace_take1 j w.heap.size T a1 a2 a3 a4 _ s (W'.drewN m) ((hom.cell (p := ⟨w.heap.size, 0, none⟩) (cell_lt b0) (by simp)).trans b0) (HK.out.same hom) (by omega)).mono ?_
          rintro e w' ⟨rfl, rfl⟩
          exact ⟨rfl, m, rfl⟩) A hA)
      obtain ⟨n, hnn⟩ : ∃ n, p.length = n := ⟨_, rfl⟩
      obtain ⟨m, hm⟩ : ∃ m, (ndOf p t).length = m := ⟨_, rfl⟩
      rw [hnn] at c0 ht hpl h30
      rw [hm] at z1 HCL
      cases A with
      | true =>
        have he : takeF p s wh h t o = 6 := by unfold takeF; rw [hb1, hb2, hs, hA]; rfl
        rw [he]
        have HE := Lib.hid (show ¬ (6 : Int) = 0 by omega)
        have HSL := Lib.hid hs
        have HNN := Lib.hid hnn
        clear he hb1 hb2 hs hpt hrd hA hnn hm hn
        go_enter Tryz.func110, Tryz.ntmps110
        go_wp2_with fail
        rw [HW.out]
        refine wp_region_quiet_lit (by kernel_rfl) (by kernel_rfl) ?_
        repeat (first | go_big_quiet_step (fail) | quiet_step (fail))
        refine wpQuiet_nil ?_
        intro _ hw'
        obtain ⟨nq1, hw''⟩ := hw'
        subst hw''
        go_wp2_with fail
        refine wp_region_quiet_lit (by kernel_rfl) (by kernel_rfl) ?_
        repeat (first | go_big_quiet_step (fail) | quiet_step (fail))
        refine wpQuiet_nil ?_
        intro _ hw'
        obtain ⟨nq2, hw''⟩ := hw'
        subst hw''
        go_wp2_with fail
        obtain ⟨W9, hW9⟩ : ∃ W9, (W.drewN nq1).drewN nq2 = W9 := ⟨_, rfl⟩
        have ho9 : Only [] W W9 := by rw [← hW9]; exact ((Only.refl [] W).drewN _).drewN _
        have HT9 : Hid (Only [T, a1, a2, a3, a4] w W9) := (HO.out.trans ho9 (by simp)).mono (by simp)
        have kk1 := HK.out.same ho9
        have b0 := (HB.out.only ho9 (by simp)).cell 0 _ rfl
        have d0 := (HD.out.only ho9 (by simp)).cell 0 _ rfl
        have d1 := (HD.out.only ho9 (by simp)).cell 1 _ rfl
        have d2 := (HD.out.only ho9 (by simp)).cell 2 _ rfl
        have d3 := (HD.out.only ho9 (by simp)).cell 3 _ rfl
        have c0 := kk1.cells.cell 0 _ rfl
        rw [HNN.out] at c0
        have c1 := kk1.cells.cell 1 _ rfl
        have c2 := kk1.cells.cell 2 _ rfl
        have c4 := kk1.cells.cell 4 _ rfl
        have z1 := (ho9.cell (p := ⟨pb, po + t * 2 + 1, none⟩) (cell_lt z1) (by simp)).trans z1
        have l4 := fun n => (kk1.slp.only ((Only.refl [] W9).drewN n) (by simp)).look h hh
        rw [HSL.out] at l4
        rw [hW9]
        clear hW9 kk1
        refine wp_region_quiet_lit (by kernel_rfl) (by kernel_rfl) ?_
        repeat (first | go_big_quiet_step ((go_at_call 99; exact Calls.quiet_of (HCL.out _ (Only.drewN ho9 _)))) | quiet_step ((go_at_call 99; exact Calls.quiet_of (HCL.out _ (Only.drewN ho9 _)))))
        refine wpQuiet_nil ?_
        intro _ hw'
        obtain ⟨nq3, hw''⟩ := hw'
        subst hw''
        go_wp2
        go_ret
        exact ⟨rfl, HT9.out.drewN _, fun h => absurd h HE.out⟩
      | false =>
        have HSL := Lib.hid hs
        have HNN := Lib.hid hnn
        by_cases hst : wh = 2 ∧ o = h
        · have he : takeF p s wh h t o = 3 := by unfold takeF; rw [hb1, hb2, hs, hA]; simp [hst]
          rw [he]
          have HE := Lib.hid (show ¬ (3 : Int) = 0 by omega)
          have hq1 : ((wh : Int) == 2) = true := by have := hst.1; simp; omega
          have hq2 : ((o : Int) == (h : Int)) = true := by have := hst.2; simp; omega
          clear hst
          clear he hb1 hb2 hs hpt hrd hA hnn hm hn
          go_enter Tryz.func110, Tryz.ntmps110
          go_wp2_with fail
          rw [HW.out]
          refine wp_region_quiet_lit (by kernel_rfl) (by kernel_rfl) ?_
          repeat (first | go_big_quiet_step (fail) | quiet_step (fail))
          refine wpQuiet_nil ?_
          intro _ hw'
          obtain ⟨nq1, hw''⟩ := hw'
          subst hw''
          go_wp2_with fail
          refine wp_region_quiet_lit (by kernel_rfl) (by kernel_rfl) ?_
          repeat (first | go_big_quiet_step (fail) | quiet_step (fail))
          refine wpQuiet_nil ?_
          intro _ hw'
          obtain ⟨nq2, hw''⟩ := hw'
          subst hw''
          go_wp2_with fail
          obtain ⟨W9, hW9⟩ : ∃ W9, (W.drewN nq1).drewN nq2 = W9 := ⟨_, rfl⟩
          have ho9 : Only [] W W9 := by rw [← hW9]; exact ((Only.refl [] W).drewN _).drewN _
          have HT9 : Hid (Only [T, a1, a2, a3, a4] w W9) := (HO.out.trans ho9 (by simp)).mono (by simp)
          have kk1 := HK.out.same ho9
          have b0 := (HB.out.only ho9 (by simp)).cell 0 _ rfl
          have d0 := (HD.out.only ho9 (by simp)).cell 0 _ rfl
          have d1 := (HD.out.only ho9 (by simp)).cell 1 _ rfl
          have d2 := (HD.out.only ho9 (by simp)).cell 2 _ rfl
          have d3 := (HD.out.only ho9 (by simp)).cell 3 _ rfl
          have c0 := kk1.cells.cell 0 _ rfl
          rw [HNN.out] at c0
          have c1 := kk1.cells.cell 1 _ rfl
          have c2 := kk1.cells.cell 2 _ rfl
          have c4 := kk1.cells.cell 4 _ rfl
          have z1 := (ho9.cell (p := ⟨pb, po + t * 2 + 1, none⟩) (cell_lt z1) (by simp)).trans z1
          have l4 := fun n => (kk1.slp.only ((Only.refl [] W9).drewN n) (by simp)).look h hh
          rw [HSL.out] at l4
          rw [hW9]
          clear hW9 kk1
          refine wp_region_quiet_lit (by kernel_rfl) (by kernel_rfl) ?_
          repeat (first | go_big_quiet_step ((go_at_call 99; exact Calls.quiet_of (HCL.out _ (Only.drewN ho9 _)))) | quiet_step ((go_at_call 99; exact Calls.quiet_of (HCL.out _ (Only.drewN ho9 _)))))
          refine wpQuiet_nil ?_
          intro _ hw'
          obtain ⟨nq3, hw''⟩ := hw'
          subst hw''
          go_wp2
          go_ret
          exact ⟨rfl, HT9.out.drewN _, fun h => absurd h HE.out⟩
        · have he : takeF p s wh h t o = 0 := by unfold takeF; rw [hb1, hb2, hs, hA]; simp [hst]
          rw [he]
          have hguard : (((wh : Int) == 2) && ((o : Int) == (h : Int))) = false := by
            rw [Bool.and_eq_false_iff]
            by_cases e : wh = 2
            · right
              have : o ≠ h := fun e2 => hst ⟨e, e2⟩
              simp; omega
            · left; simp; omega
          have hcase : Hid (((wh : Int) == 2) = false) ∨ (Hid (((wh : Int) == 2) = true) ∧ Hid (((o : Int) == (h : Int)) = false)) := by
            by_cases e : wh = 2
            · right
              have : o ≠ h := fun e2 => hst ⟨e, e2⟩
              exact ⟨by show _ = _; simp; omega, by show _ = _; simp; omega⟩
            · left; show _ = _; simp; omega
          clear he hb1 hb2 hs hpt hrd hA hnn hm hn hst hguard
          go_enter Tryz.func110, Tryz.ntmps110
          go_wp2_with fail
          rw [HW.out]
          refine wp_region_quiet_lit (by kernel_rfl) (by kernel_rfl) ?_
          repeat (first | go_big_quiet_step (fail) | quiet_step (fail))
          refine wpQuiet_nil ?_
          intro _ hw'
          obtain ⟨nq1, hw''⟩ := hw'
          subst hw''
          go_wp2_with fail
          refine wp_region_quiet_lit (by kernel_rfl) (by kernel_rfl) ?_
          repeat (first | go_big_quiet_step (fail) | quiet_step (fail))
          refine wpQuiet_nil ?_
          intro _ hw'
          obtain ⟨nq2, hw''⟩ := hw'
          subst hw''
          go_wp2_with fail
          obtain ⟨W9, hW9⟩ : ∃ W9, (W.drewN nq1).drewN nq2 = W9 := ⟨_, rfl⟩
          have ho9 : Only [] W W9 := by rw [← hW9]; exact ((Only.refl [] W).drewN _).drewN _
          have HT9 : Hid (Only [T, a1, a2, a3, a4] w W9) := (HO.out.trans ho9 (by simp)).mono (by simp)
          have kk1 := HK.out.same ho9
          have b0 := (HB.out.only ho9 (by simp)).cell 0 _ rfl
          have d0 := (HD.out.only ho9 (by simp)).cell 0 _ rfl
          have d1 := (HD.out.only ho9 (by simp)).cell 1 _ rfl
          have d2 := (HD.out.only ho9 (by simp)).cell 2 _ rfl
          have d3 := (HD.out.only ho9 (by simp)).cell 3 _ rfl
          have c0 := kk1.cells.cell 0 _ rfl
          rw [HNN.out] at c0
          have c1 := kk1.cells.cell 1 _ rfl
          have c2 := kk1.cells.cell 2 _ rfl
          have c4 := kk1.cells.cell 4 _ rfl
          have z1 := (ho9.cell (p := ⟨pb, po + t * 2 + 1, none⟩) (cell_lt z1) (by simp)).trans z1
          have l4 := fun n => (kk1.slp.only ((Only.refl [] W9).drewN n) (by simp)).look h hh
          rw [HSL.out] at l4
          rw [hW9]
          clear hW9 kk1
          refine wp_region_quiet_lit (by kernel_rfl) (by kernel_rfl) ?_
          repeat (first | go_big_quiet_step ((go_at_call 99; exact Calls.quiet_of (HCL.out _ (Only.drewN ho9 _)))) | quiet_step ((go_at_call 99; exact Calls.quiet_of (HCL.out _ (Only.drewN ho9 _)))))
          refine wpQuiet_nil ?_
          intro _ hw'
          obtain ⟨nq3, hw''⟩ := hw'
          subst hw''
          have HTK := Lib.hid (HK.out.same ho9)
          have fact : ∃ x4 : World, ∃ x1 x2 x3 : World, ∃ (v0 v1 : Value) (s0 s1 : Nat), (Instr.mapEntry 114 (.map (some a1)) (.int .i64 (h : Int))).run Tryz.prog (W9.drewN nq3).drew = .ok (.tuple #[v0, .int .i64 (s0 : Int)]) x1 ∧
              (Instr.entryStore 114 (.map (some a1)) (.int .i64 (s0 : Int)) (.int .i64 (t : Int))).run Tryz.prog x1 = .ok () x2 ∧ (Instr.mapEntry 115 (.map (some a2)) (.int .i64 (t : Int))).run Tryz.prog x2 = .ok (.tuple #[v1, .int .i64 (s1 : Int)]) x3 ∧
              (Instr.entryStore 115 (.map (some a2)) (.int .i64 (s1 : Int)) (.bool true)).run Tryz.prog x3 = .ok () x4 ∧ Only [a1] W9 x1 ∧ Only [a1] W9 x2 ∧ Only [a1, a2] W9 x3 ∧ Only [a1, a2] W9 x4 ∧ TrAt x4 T a1 a2 a3 a4 (.slice (some ⟨pb, po, none⟩) p.length pc) (takeT s h t) := by
            have hA := HTK.out.same (((Only.refl [] W9).drewN nq3).drew)
            have hnd := hA.nd
            simp only [List.nodup_cons, List.mem_cons, List.not_mem_nil, or_false, not_or, not_false_eq_true, List.nodup_nil, and_true] at hnd
            obtain ⟨⟨n1, n2, n3, n4⟩, ⟨n5, n6, n7⟩, ⟨n8, n9⟩, n10⟩ := hnd
            obtain ⟨v0, s0, x1, e1, o1, q1, st1⟩ := hA.has.entry h hh
            obtain ⟨x2, e2, m2, o2⟩ := st1 x1 t rfl
            have o12 : Only [a1] (W9.drewN nq3).drew x2 := o1.trans o2 (fun y hy _ => hy)
            obtain ⟨v1, s1, x3, e3, o3, q3, st3⟩ := (hA.had.only o12 (by simp; exact fun e => n5 e.symm)).entry t t1
            obtain ⟨x4, e4, m4, o4⟩ := st3 x3 true rfl
            have o34 : Only [a2] x2 x4 := o3.trans o4 (fun y hy _ => hy)
            have hd : Only [] W9 (W9.drewN nq3).drew := ((Only.refl [] W9).drewN nq3).drew
            have p1 : Only [a1] W9 x1 := (hd.mono (by simp)).trans o1 (fun y hy _ => hy)
            have p2 : Only [a1] W9 x2 := (hd.mono (by simp)).trans o12 (fun y hy _ => hy)
            have p3 : Only [a1, a2] W9 x3 := (p2.mono (fun y hy _ => by simp at hy; simp [hy])).trans o3 (fun y hy _ => by simp at hy; simp [hy])
            have p4 : Only [a1, a2] W9 x4 := (p2.mono (fun y hy _ => by simp at hy; simp [hy])).trans o34 (fun y hy _ => by simp at hy; simp [hy])
            refine ⟨x4, x1, x2, x3, v0, v1, s0, s1, e1, e2, e3, e4, p1, p2, p3, p4, ⟨?_, m2.only o34 (by simp; exact n5), m4, ?_, ?_, hA.nd⟩⟩
            · exact HTK.out.cells.only p4 (by simp; exact ⟨n1, n2⟩)
            · exact HTK.out.fin.only p4 (by simp; exact ⟨fun e => n6 e.symm, fun e => n8 e.symm⟩)
            · exact HTK.out.slp.only p4 (by simp; exact ⟨fun e => n7 e.symm, fun e => n9 e.symm⟩)
          obtain ⟨x4, x1, x2, x3, v0, v1, s0, s1, e1, e2, e3, e4, p1, p2, p3, p4, hT4⟩ := fact
          have e1 : (Instr.mapEntry 114 (.map (some a1)) (.int .i64 (h : Int))).run Tryz.prog (W9.drewN (nq3 + 1)) = .ok (.tuple #[v0, .int .i64 (s0 : Int)]) x1 := e1
          have HT4 := Lib.hid hT4
          have HP4 := Lib.hid (show Only [T, a1, a2, a3, a4] w x4 from (HO.out.trans ho9 (by simp)).mono (by simp) |>.trans p4 (fun y hy _ => by simp at hy; simp; omega))
          have key : ∀ W' : World, Only [a1, a2] W9 W' → W'.cell? ⟨w.heap.size, 0, none⟩ = some (.pointer (some ⟨T, 0, none⟩)) ∧ W'.cell? ⟨T, 1, none⟩ = some (.map (some a1)) ∧ W'.cell? ⟨T, 2, none⟩ = some (.map (some a2)) ∧
              W'.cell? ⟨w.heap.size + 1, 1, none⟩ = some (.int .i64 (h : Int)) ∧ W'.cell? ⟨w.heap.size + 1, 2, none⟩ = some (.int .i64 (t : Int)) := by
            intro W' ho
            have hnd := HTK.out.nd
            simp only [List.nodup_cons, List.mem_cons, List.not_mem_nil, or_false, not_or, not_false_eq_true, List.nodup_nil, and_true] at hnd
            obtain ⟨⟨n1, n2, n3, n4⟩, _⟩ := hnd
            have i1 : a1 < w.heap.size := HLT.out.1
            have i2 : a2 < w.heap.size := HLT.out.2
            have u1 : ¬ (w.heap.size = a1 ∨ w.heap.size = a2) := by omega
            have u2 : ¬ (w.heap.size + 1 = a1 ∨ w.heap.size + 1 = a2) := by omega
            exact ⟨(ho.cell (p := ⟨w.heap.size, 0, none⟩) (cell_lt b0) (by simpa using u1)).trans b0, (ho.cell (p := ⟨T, 1, none⟩) (cell_lt c1) (by simp; exact ⟨n1, n2⟩)).trans c1, (ho.cell (p := ⟨T, 2, none⟩) (cell_lt c2) (by simp; exact ⟨n1, n2⟩)).trans c2,
              (ho.cell (p := ⟨w.heap.size + 1, 1, none⟩) (cell_lt d1) (by simpa using u2)).trans d1, (ho.cell (p := ⟨w.heap.size + 1, 2, none⟩) (cell_lt d2) (by simpa using u2)).trans d2⟩
          have y1 := key x1 (p1.mono (fun y hy _ => by simp at hy; simp [hy]))
          have y2 := key x2 (p2.mono (fun y hy _ => by simp at hy; simp [hy]))
          have y3 := key x3 p3
          obtain ⟨r10, r11, r12, r13, r14⟩ := y1
          obtain ⟨r20, r21, r22, r23, r24⟩ := y2
          obtain ⟨r30, r31, r32, r33, r34⟩ := y3
          clear hT4 p1 p2 p3 p4 key
          rcases hcase with hc | ⟨hc, hc2⟩
          · have hc := hc.out
            go_wp2_with fail
            refine wp_region_seqE [14, 16, 17, 19] [[(0, 14), (15, 1), (18, 1)], [(0, 14), (15, 1), (18, 1)], [(0, 14), (15, 1), (18, 1)], [(0, 14), (15, 1), (18, 1)]] (by kernel_rfl) (by decide +kernel) (by decide +kernel) (by decide +kernel) rfl rfl ?_
            simp only [segsOf, runW, List.getElem?_cons_succ, List.getElem?_cons_zero, List.take_succ_cons, List.take_zero, List.drop_succ_cons, List.drop_zero, Nat.reduceAdd, Nat.reduceSub]
            repeat still_step
            refine wpStill_nil ?_
            refine writes_step fun K1 hK1 => ?_
            unfold writesThen
            go_simp
            refine hK1 _ _ ?_
            clear hK1 K1
            repeat still_step
            refine wpStill_nil ?_
            refine writes_step fun K1 hK1 => ?_
            unfold writesThen
            go_simp
            refine hK1 _ _ ?_
            clear hK1 K1
            repeat still_step
            refine wpStill_nil ?_
            refine writes_step fun K1 hK1 => ?_
            unfold writesThen
            go_simp
            refine hK1 _ _ ?_
            clear hK1 K1
            repeat still_step
            refine wpStill_nil ?_
            refine writes_step fun K1 hK1 => ?_
            unfold writesThen
            go_simp
            refine hK1 _ _ ?_
            clear hK1 K1
            simp only [lateW, List.nil_append, List.cons_append, List.drop_succ_cons, List.drop_zero, List.flatMap_cons, List.flatMap_nil, List.take_succ_cons, List.take_zero, List.append_nil, List.getElem?_cons_succ, List.getElem?_cons_zero, Option.getD_some, List.length_cons, List.length_nil, Nat.reduceAdd, and_true]
            refine ⟨⟨?_, ?_, ?_, ?_⟩, ?_⟩
            · repeat still_step
              exact wpStill_nil rfl
            · repeat still_step
              exact wpStill_nil rfl
            · repeat still_step
              exact wpStill_nil rfl
            · repeat still_step
              exact wpStill_nil rfl
            go_wp2
            go_ret
            exact ⟨rfl, HP4.out, fun _ => HT4.out⟩
          · have hc := hc.out
            have hc2 := hc2.out
            go_wp2_with fail
            refine wp_region_seqE [14, 16, 17, 19] [[(0, 14), (15, 1), (18, 1)], [(0, 14), (15, 1), (18, 1)], [(0, 14), (15, 1), (18, 1)], [(0, 14), (15, 1), (18, 1)]] (by kernel_rfl) (by decide +kernel) (by decide +kernel) (by decide +kernel) rfl rfl ?_
            simp only [segsOf, runW, List.getElem?_cons_succ, List.getElem?_cons_zero, List.take_succ_cons, List.take_zero, List.drop_succ_cons, List.drop_zero, Nat.reduceAdd, Nat.reduceSub]
            repeat still_step
            refine wpStill_nil ?_
            refine writes_step fun K1 hK1 => ?_
            unfold writesThen
            go_simp
            refine hK1 _ _ ?_
            clear hK1 K1
            repeat still_step
            refine wpStill_nil ?_
            refine writes_step fun K1 hK1 => ?_
            unfold writesThen
            go_simp
            refine hK1 _ _ ?_
            clear hK1 K1
            repeat still_step
            refine wpStill_nil ?_
            refine writes_step fun K1 hK1 => ?_
            unfold writesThen
            go_simp
            refine hK1 _ _ ?_
            clear hK1 K1
            repeat still_step
            refine wpStill_nil ?_
            refine writes_step fun K1 hK1 => ?_
            unfold writesThen
            go_simp
            refine hK1 _ _ ?_
            clear hK1 K1
            simp only [lateW, List.nil_append, List.cons_append, List.drop_succ_cons, List.drop_zero, List.flatMap_cons, List.flatMap_nil, List.take_succ_cons, List.take_zero, List.append_nil, List.getElem?_cons_succ, List.getElem?_cons_zero, Option.getD_some, List.length_cons, List.length_nil, Nat.reduceAdd, and_true]
            refine ⟨⟨?_, ?_, ?_, ?_⟩, ?_⟩
            · repeat still_step
              exact wpStill_nil rfl
            · repeat still_step
              exact wpStill_nil rfl
            · repeat still_step
              exact wpStill_nil rfl
            · repeat still_step
              exact wpStill_nil rfl
            go_wp2
            go_ret
            exact ⟨rfl, HP4.out, fun _ => HT4.out⟩

end Go.Proofs.YtoofalchkedciaaGreatDoor
