/-
  What a gang's parts do, said of the gang.
-/
import Derived.Test.YtocpmncedlenbaaP33GangHolds
import Derived.Test.YtocpmncedlenbaaP34GangHolds
namespace Go.Proofs.Ytocpmncedlenbaa
open Go.RowKit Go.Deep

theorem GangAt.own {w : World} {lab : Nat → Nat} {q : GPar} {SS SK : List Nat} {p : PlanL} {room m : Nat} {s : GSt} {F : Nat → Prop} (_h : GangAt w lab q SS SK p room m s) (hF : ∀ x, lab x ≠ 0 ↔ F x) {x c : Nat} (e : lab x = c) (hc : c ≠ 0) : F x := (hF x).1 (by omega)

theorem GRel.put {w0 w : World} {F0 F : Nat → Prop} {q : GPar} {p : PlanL} {room m : Nat} {s : GSt} (h : GRel w0 F0 w q p room m s F) {i : Nat} (hi : i < m) (x : Int) :
    Calls Try.prog 43 #[.pointer (some ⟨q.HB i, 0, none⟩), .int .i64 x] w fun e w' => ∃ v, e = .returned v ∧ Ints w' w.heap.size v (handOut (s.ws i).near room (s.ws i).ring) ∧
      GRel w0 F0 w' q p room m ⟨s.done, s.spill, s.row, upW s.ws i (wkPut room (s.ws i) x)⟩ F ∧ ∀ y ∈ own v, ¬ F y := by
  obtain ⟨lab, SS, SK, hg, hF⟩ := h.gang
  refine (Hand.put _ _ _ _ _ x w (hg.hands i hi)).mono ?_
  rintro e w' ⟨v, rfl, hI, hH, ho⟩
  refine ⟨v, rfl, hI, h.step ⟨lab, SS, SK, hg.setHand hi hH ho (by simp), hF⟩ (OnlyF.of ho fun y hy => ?_) (fun _ hx => .inl hx), fun y hy hx => ?_⟩
  · have hy : y = q.HB i ∨ y = q.RB i := by simpa using hy
    rcases hy with rfl | rfl
    · exact hg.own hF (hg.lh i hi).1 (by omega)
    · exact hg.own hF (hg.lh i hi).2 (by omega)
  · have h1 := (hI.own_lt y hy).1
    have h2 := h.gang.lt y hx
    omega

theorem GRel.rob {w0 w : World} {F0 F : Nat → Prop} {q : GPar} {p : PlanL} {room m : Nat} {s : GSt} (h : GRel w0 F0 w q p room m s F) {i : Nat} (hi : i < m) :
    Calls Try.prog 48 #[.pointer (some ⟨q.HB i, 0, none⟩)] w fun e w' => ∃ v, e = .returned v ∧ Ints w' w.heap.size v ((s.ws i).ring.take (halfOf (s.ws i).ring)) ∧
      GRel w0 F0 w' q p room m ⟨s.done, s.spill, s.row, upW s.ws i ⟨(s.ws i).near, (s.ws i).ring.drop (halfOf (s.ws i).ring), (s.ws i).task, (s.ws i).left⟩⟩ F ∧ ∀ y ∈ own v, ¬ F y := by
  obtain ⟨lab, SS, SK, hg, hF⟩ := h.gang
  refine (Hand.rob _ _ _ _ _ w (hg.hands i hi)).mono ?_
  rintro e w' ⟨v, rfl, hI, hH, ho⟩
  refine ⟨v, rfl, hI, h.step ⟨lab, SS, SK, hg.setHand hi hH ho (by simp), hF⟩ (OnlyF.of ho fun y hy => ?_) (fun _ hx => .inl hx), fun y hy hx => ?_⟩
  · obtain rfl : y = q.RB i := by simpa using hy
    exact hg.own hF (hg.lh i hi).2 (by omega)
  · have h1 := (hI.own_lt y hy).1
    have h2 := h.gang.lt y hx
    omega

theorem GRel.take_near {w0 w : World} {F0 F : Nat → Prop} {q : GPar} {p : PlanL} {room m : Nat} {s : GSt} (h : GRel w0 F0 w q p room m s F) {i : Nat} (hi : i < m) (hn : 0 ≤ (s.ws i).near) :
    Calls Try.prog 45 #[.pointer (some ⟨q.HB i, 0, none⟩)] w fun e w' => e = .returned (.tuple #[.int .i64 (s.ws i).near, .nilIface]) ∧
      GRel w0 F0 w' q p room m ⟨s.done, s.spill, s.row, upW s.ws i ⟨-1, (s.ws i).ring, (s.ws i).task, (s.ws i).left⟩⟩ F := by
  obtain ⟨lab, SS, SK, hg, hF⟩ := h.gang
  refine (Hand.take_near _ _ _ _ _ w (hg.hands i hi) hn).mono ?_
  rintro e w' ⟨rfl, hH, ho⟩
  refine ⟨rfl, h.step ⟨lab, SS, SK, hg.setHand hi hH ho (by simp), hF⟩ (OnlyF.of ho fun y hy => ?_) (fun _ hx => .inl hx)⟩
  obtain rfl : y = q.HB i := by simpa using hy
  exact hg.own hF (hg.lh i hi).1 (by omega)

theorem GRel.take_ring {w0 w : World} {F0 F : Nat → Prop} {q : GPar} {p : PlanL} {room m : Nat} {s : GSt} (h : GRel w0 F0 w q p room m s F) {i : Nat} (hi : i < m) (hn : (s.ws i).near < 0) (hr : (s.ws i).ring ≠ []) :
    Calls Try.prog 45 #[.pointer (some ⟨q.HB i, 0, none⟩)] w fun e w' => e = .returned (.tuple #[.int .i64 ((s.ws i).ring.getLastD 0), .nilIface]) ∧
      GRel w0 F0 w' q p room m ⟨s.done, s.spill, s.row, upW s.ws i ⟨(s.ws i).near, (s.ws i).ring.dropLast, (s.ws i).task, (s.ws i).left⟩⟩ F := by
  obtain ⟨lab, SS, SK, hg, hF⟩ := h.gang
  have hl : (s.ws i).ring.dropLast ++ [(s.ws i).ring.getLastD 0] = (s.ws i).ring := by
    have := List.dropLast_concat_getLast hr
    rw [List.getLastD_eq_getLast?, List.getLast?_eq_some_getLast hr]
    exact this
  refine (Hand.take_ring _ _ room _ (s.ws i).ring.dropLast ((s.ws i).ring.getLastD 0) w (by rw [hl]; exact hg.hands i hi) hn).mono ?_
  rintro e w' ⟨rfl, hH, ho⟩
  refine ⟨rfl, h.step ⟨lab, SS, SK, hg.setHand hi hH ho (by simp), hF⟩ (OnlyF.of ho fun y hy => ?_) (fun _ hx => .inl hx)⟩
  obtain rfl : y = q.RB i := by simpa using hy
  exact hg.own hF (hg.lh i hi).2 (by omega)

theorem GRel.take_none {w0 w : World} {F0 F : Nat → Prop} {q : GPar} {p : PlanL} {room m : Nat} {s : GSt} (h : GRel w0 F0 w q p room m s F) {i : Nat} (hi : i < m) (hn : (s.ws i).near < 0) (hr : (s.ws i).ring = []) :
    Calls Try.prog 45 #[.pointer (some ⟨q.HB i, 0, none⟩)] w fun e w' => e = .returned (.tuple #[.int .i64 0, .iface 52 (.int .i64 5)]) ∧ w = w' := by
  obtain ⟨lab, SS, SK, hg, hF⟩ := h.gang
  exact Hand.take_none _ _ room w _ (by rw [← hr]; exact hg.hands i hi) hn

theorem GRel.hand_all {w0 w : World} {F0 F : Nat → Prop} {q : GPar} {p : PlanL} {room m : Nat} {s : GSt} (h : GRel w0 F0 w q p room m s F) {i : Nat} (hi : i < m) :
    Calls Try.prog 26 #[.pointer (some ⟨q.HB i, 0, none⟩)] w fun e w' => ∃ v, e = .returned v ∧ Ints w' w.heap.size v ((s.ws i).ring ++ nearL (s.ws i).near) ∧ Only [] w w' := by
  obtain ⟨lab, SS, SK, hg, hF⟩ := h.gang
  exact Hand.all _ _ _ _ _ w (hg.hands i hi)

theorem GRel.spill_put {w0 w : World} {F0 F : Nat → Prop} {q : GPar} {p : PlanL} {room m : Nat} {s : GSt} (h : GRel w0 F0 w q p room m s F) (v : Value) (l : List Int) (hv : Reads w v l) (hd : ∀ y ∈ own v, ¬ F y) (hf : s.spill.length + l.length ≤ 60) :
    Calls Try.prog 19 #[.pointer (some ⟨q.S, 0, none⟩), v] w fun e w' => e = .returned .nilIface ∧ ∃ F', GRel w0 F0 w' q p room m ⟨s.done, s.spill ++ l, s.row, s.ws⟩ F' ∧ Kin' w F F' := by
  obtain ⟨lab, SS, SK, hg, hF⟩ := h.gang
  refine (Spill.put SS q.S room s.spill v l w hg.spill hv (fun x hx hy => hd x hx (hg.own hF (hg.l5 x hy) (by omega))) hf).mono ?_
  rintro e w' ⟨rfl, fp', hS, ho, hk⟩
  have hm := relab_more (w := w) (w' := w') (c := 5) (by omega) hF
  refine ⟨rfl, more F w w', h.step ⟨_, fp', SK, hg.setSpill hS ho hk, hm⟩ (OnlyF.of ho fun y hy => hg.own hF (hg.l5 y hy) (by omega)) (fun x hx => ?_), fun x hx => ?_⟩
  all_goals
    rcases hx with hx | hx
    · exact .inl hx
    · exact .inr hx.1

theorem GRel.spill_get {w0 w : World} {F0 F : Nat → Prop} {q : GPar} {p : PlanL} {room m : Nat} {s : GSt} (h : GRel w0 F0 w q p room m s F) :
    Calls Try.prog 46 #[.pointer (some ⟨q.S, 0, none⟩), .int .i64 1] w fun e w' => ∃ v, e = .returned (.tuple #[v, .nilIface]) ∧ Ints w' w.heap.size v (s.spill.take 1) ∧
      GRel w0 F0 w' q p room m ⟨s.done, s.spill.drop 1, s.row, s.ws⟩ F ∧ ∀ y ∈ own v, ¬ F y := by
  obtain ⟨lab, SS, SK, hg, hF⟩ := h.gang
  refine (Spill.get SS q.S room s.spill 1 w hg.spill (by omega) (by omega)).mono ?_
  rintro e w' ⟨v, rfl, hI, fp', hS, ho, hk⟩
  have hsame : GangAt w' lab q fp' SK p room m ⟨s.done, s.spill.drop 1, s.row, s.ws⟩ := by
    have hx := hg.setSpill hS ho (fun x hx => .inl (hk x hx))
    have hold : ∀ x, lab x ≠ 0 → relab lab w.heap.size w'.heap.size 5 x = lab x := fun x h0 => relab_old (hg.lt x h0)
    exact ⟨hx.cells, hx.plan, hx.join, hx.spill, hx.park, hx.row, hx.works, hx.hands, fun x h0 => by have := hg.lt x h0; have := ho.size; omega, hg.l1, hg.l2, hg.l3, hg.l4, hg.l4f, fun x hx => hg.l5 x (hk x hx), hg.l6, hg.lw, hg.lh, hg.m1, hg.m6, hg.mc, hg.cm⟩
  refine ⟨v, rfl, hI, h.step ⟨lab, fp', SK, hsame, hF⟩ (OnlyF.of ho fun y hy => hg.own hF (hg.l5 y hy) (by omega)) (fun _ hx => .inl hx), fun y hy hx => ?_⟩
  have h1 := (hI.own_lt y hy).1
  have h2 := h.gang.lt y hx
  omega

theorem GRel.spill_all {w0 w : World} {F0 F : Nat → Prop} {q : GPar} {p : PlanL} {room m : Nat} {s : GSt} (h : GRel w0 F0 w q p room m s F) :
    Calls Try.prog 25 #[.pointer (some ⟨q.S, 0, none⟩)] w fun e w' => ∃ v, e = .returned v ∧ Ints w' w.heap.size v s.spill ∧ Only [] w w' := by
  obtain ⟨lab, SS, SK, hg, hF⟩ := h.gang
  exact Spill.all _ _ _ _ w hg.spill

theorem GRel.done {w0 w : World} {F0 F : Nat → Prop} {q : GPar} {p : PlanL} {room m : Nat} {s : GSt} (h : GRel w0 F0 w q p room m s F) (i : Nat) (hi : i < p.length) (hr : readyB p s.done i = true) :
    Calls Try.prog 42 #[.pointer (some ⟨q.J, 0, none⟩), .int .i64 i] w fun e w' => ∃ v, e = .returned (.tuple #[v, .nilIface]) ∧ Ints w' w.heap.size v (natL (newL p s.done i)) ∧
      GRel w0 F0 w' q p room m ⟨upB s.done i, s.spill, s.row, s.ws⟩ F ∧ ∀ y ∈ own v, ¬ F y := by
  obtain ⟨lab, SS, SK, hg, hF⟩ := h.gang
  refine (Join.done q.SJ q.FJ q.J p s.done i w hg.join hi hr).mono ?_
  rintro e w' ⟨v, rfl, hI, hJ, ho⟩
  refine ⟨v, rfl, hI, h.step ⟨lab, SS, SK, hg.setJoin hJ ho, hF⟩ (OnlyF.of ho fun y hy => hg.own hF (hg.l4 y hy) (by omega)) (fun _ hx => .inl hx), fun y hy hx => ?_⟩
  have h1 := (hI.own_lt y hy).1
  have h2 := h.gang.lt y hx
  omega

theorem GRel.awake {w0 w : World} {F0 F : Nat → Prop} {q : GPar} {p : PlanL} {room m : Nat} {s : GSt} (h : GRel w0 F0 w q p room m s F) {i : Nat} (hi : i < m) (r : Bool) (hr : decide ((i : Int) ∈ s.row) = r) :
    Calls Try.prog 21 #[.pointer (some ⟨q.K, 0, none⟩), .int .i64 i] w fun e w' => e = .returned (.tuple #[.bool (!r), .nilIface]) ∧ w = w' := by
  obtain ⟨lab, SS, SK, hg, hF⟩ := h.gang
  exact Park.awake SK q.K m s.row i w hg.park (by omega) (by omega) r hr

theorem GRel.sleep {w0 w : World} {F0 F : Nat → Prop} {q : GPar} {p : PlanL} {room m : Nat} {s : GSt} (h : GRel w0 F0 w q p room m s F) {i : Nat} (hi : i < m) (hr : (i : Int) ∉ s.row) (hl : s.row.length ≤ 6) :
    Calls Try.prog 24 #[.pointer (some ⟨q.K, 0, none⟩), .int .i64 i] w fun e w' => e = .returned .nilIface ∧ ∃ F', GRel w0 F0 w' q p room m ⟨s.done, s.spill, s.row ++ [(i : Int)], s.ws⟩ F' ∧ Kin' w F F' ∧ OnlyF F w w' := by
  obtain ⟨lab, SS, SK, hg, hF⟩ := h.gang
  refine (Park.sleep SK q.K m s.row i w hg.park (by omega) (by omega) hr (by omega)).mono ?_
  rintro e w' ⟨rfl, fp', hS, ho, hk⟩
  have hm := relab_more (w := w) (w' := w') (c := 6) (by omega) hF
  have hoF : OnlyF F w w' := OnlyF.of ho fun y hy => hg.own hF (hg.l6 y hy) (by omega)
  refine ⟨rfl, more F w w', h.step ⟨_, SS, fp', hg.setPark hS ho (fun _ h => h) hk, hm⟩ hoF (fun x hx => ?_), fun x hx => ?_, hoF⟩
  all_goals
    rcases hx with hx | hx
    · exact .inl hx
    · exact .inr hx.1

theorem GRel.wake {w0 w : World} {F0 F : Nat → Prop} {q : GPar} {p : PlanL} {room m : Nat} {s : GSt} (h : GRel w0 F0 w q p room m s F) (n : Nat) (hn : n ≤ 30) :
    Calls Try.prog 44 #[.pointer (some ⟨q.K, 0, none⟩), .int .i64 n] w fun e w' => ∃ v, e = .returned (.tuple #[v, .nilIface]) ∧ Ints w' w.heap.size v (s.row.take n) ∧
      ∃ F', GRel w0 F0 w' q p room m ⟨s.done, s.spill, s.row.drop n, s.ws⟩ F' ∧ Kin' w F F' ∧ OnlyF F w w' := by
  obtain ⟨lab, SS, SK, hg, hF⟩ := h.gang
  refine (Park.wake SK q.K m s.row n w hg.park (by omega) (by omega)).mono ?_
  rintro e w' ⟨v, rfl, hI, fp', hS, ho, hk, hd⟩
  rw [Int.toNat_natCast] at hI hS
  have hm := relab_more (w := w) (w' := w') (c := 6) (by omega) hF
  have hb : q.K ∈ SK := by
    obtain ⟨⟨rv, _, _, rfl, _⟩, _⟩ := hg.park
    simp
  have hT : ∀ x ∈ [q.K], x ∈ SK := fun x hx => by
    obtain rfl : x = q.K := by simpa using hx
    exact hb
  have hoF : OnlyF F w w' := OnlyF.of ho fun y hy => hg.own hF (hg.l6 y (hT y hy)) (by omega)
  refine ⟨v, rfl, hI, more F w w', h.step ⟨_, SS, fp', hg.setPark hS ho hT hk, hm⟩ hoF (fun x hx => ?_), fun x hx => ?_, hoF⟩
  all_goals
    rcases hx with hx | hx
    · exact .inl hx
    · exact .inr hx.1

theorem GRel.left {w0 w : World} {F0 F : Nat → Prop} {q : GPar} {p : PlanL} {room m : Nat} {s : GSt} (h : GRel w0 F0 w q p room m s F) :
    Calls Try.prog 28 #[.pointer (some ⟨q.J, 0, none⟩)] w fun e w' => e = .returned (.int .i64 (leftN p s.done : Int)) ∧ w = w' := by
  obtain ⟨lab, SS, SK, hg, hF⟩ := h.gang
  exact Join.left _ _ _ _ _ w hg.join

/-- A worker's own cells are set. -/
theorem GRel.set {w0 w w' : World} {F0 F : Nat → Prop} {q : GPar} {p : PlanL} {room m : Nat} {s : GSt} (h : GRel w0 F0 w q p room m s F) {i : Nat} (hi : i < m) {task left : Int} (hc : Cells w' (q.WB i) [.pointer (some ⟨q.HB i, 0, none⟩), .int .i64 task, .int .i64 left]) (ho : Only [q.WB i] w w') :
    GRel w0 F0 w' q p room m ⟨s.done, s.spill, s.row, upW s.ws i ⟨(s.ws i).near, (s.ws i).ring, task, left⟩⟩ F := by
  obtain ⟨lab, SS, SK, hg, hF⟩ := h.gang
  refine h.step ⟨lab, SS, SK, hg.setWork hi hc ho, hF⟩ (OnlyF.of ho fun y hy => ?_) (fun _ hx => .inl hx)
  obtain rfl : y = q.WB i := by simpa using hy
  exact hg.own hF (hg.lw i hi) (by omega)

/-- What a walk reads. -/
theorem GRel.cells {w0 w : World} {F0 F : Nat → Prop} {q : GPar} {p : PlanL} {room m : Nat} {s : GSt} (h : GRel w0 F0 w q p room m s F) :
    Cells w q.G [q.pv, .pointer (some ⟨q.J, 0, none⟩), .pointer (some ⟨q.S, 0, none⟩), .pointer (some ⟨q.K, 0, none⟩), .slice (some ⟨q.L, 0, none⟩) m q.cap] ∧ InPlan w q.pv p ∧ (∀ i, i < m → w.cell? ⟨q.L, i, none⟩ = some (.pointer (some ⟨q.WB i, 0, none⟩))) ∧
    (∀ i, i < m → Cells w (q.WB i) [.pointer (some ⟨q.HB i, 0, none⟩), .int .i64 (s.ws i).task, .int .i64 (s.ws i).left]) ∧ (∀ i, i < m → F (q.WB i)) ∧ 1 ≤ m ∧ m ≤ 6 ∧ m ≤ q.cap ∧ q.cap ≤ maxLen ∧ 1 ≤ room ∧ room ≤ 16 ∧ PlanOk p := by
  obtain ⟨lab, SS, SK, hg, hF⟩ := h.gang
  exact ⟨hg.cells, hg.plan.plan, hg.row, hg.works, fun i hi => hg.own hF (hg.lw i hi) (by omega), hg.m1, hg.m6, hg.mc, hg.cm, hg.spill.room.1, hg.spill.room.2, hg.join.ok⟩

end Go.Proofs.Ytocpmncedlenbaa
