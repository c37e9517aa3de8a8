/-
  Contract of (*join.Join).Left.
  What a gang's parts do, said of the gang.
  One element appended to a slice of the call's own, in a plain region.
  Plans and lists written out in the text.
  Contract of gang.New.
-/
import Derived.Test.YtoofalchkedciaaGreatDoorP21TopGang
import Derived.Test.YtoofalchkedciaaGreatDoorP22TopGang
import Derived.Test.YtoofalchkedciaaGreatDoorP5TopGang
import Derived.Test.YtoofalchkedciaaGreatDoorP7TopGang
import Derived.Test.YtoofalchkedciaaGreatDoorP9TopGang
import Derived.Test.YtoofalchkedciaaGreatDoorP18TopGang
namespace Go.Proofs.YtoofalchkedciaaGreatDoor
open Go.RowKit Go.Deep

theorem Join.left (S : List Nat) (FP : Nat → Prop) (J : Nat) (p : PlanL) (D : Nat → Bool) (w : World) (h : JoinIs w S FP J p D) :
    Calls Tryz.prog 39 #[.pointer (some ⟨J, 0, none⟩)] w fun e w' => e = .returned (.int .i64 (leftN p D : Int)) ∧ w = w' := by
  obtain ⟨pv, lv, A, h, _⟩ := h
  have c3 := h.cells.cell 3 _ rfl
  generalize leftN p D = n at *
  clear h
  go_enter Tryz.func39, Tryz.ntmps39
  go_wp2
  go_ret
  exact ⟨rfl, rfl⟩


end Go.Proofs.YtoofalchkedciaaGreatDoor

namespace Go.Proofs.YtoofalchkedciaaGreatDoor
open Go.RowKit Go.Deep

theorem GangAt.own {w : World} {lab : Nat → Nat} {q : GPar} {SS SK : List Nat} {p : PlanL} {room m : Nat} {s : GSt} {F : Nat → Prop} (_h : GangAt w lab q SS SK p room m s) (hF : ∀ x, lab x ≠ 0 ↔ F x) {x c : Nat} (e : lab x = c) (hc : c ≠ 0) : F x := (hF x).1 (by omega)

theorem GRel.put {w0 w : World} {F0 F : Nat → Prop} {q : GPar} {p : PlanL} {room m : Nat} {s : GSt} (h : GRel w0 F0 w q p room m s F) {i : Nat} (hi : i < m) (x : Int) :
    Calls Tryz.prog 139 #[.pointer (some ⟨q.HB i, 0, none⟩), .int .i64 x] w fun e w' => ∃ v, e = .returned v ∧ Ints w' w.heap.size v (handOut (s.ws i).near room (s.ws i).ring) ∧
      GRel w0 F0 w' q p room m ⟨s.done, s.spill, s.row, upW s.ws i (wkPut room (s.ws i) x)⟩ F ∧ ∀ y ∈ own v, ¬ F y := by
  obtain ⟨lab, SS, SK, hg, hF⟩ := h.gang
  refine (Hand.put _ _ _ _ _ x w (hg.hands i hi)).mono ?_
  rintro e w' ⟨v, rfl, hI, hH, ho⟩
  refine ⟨v, rfl, hI, h.step ⟨lab, SS, SK, hg.setHand hi hH ho (by simp), hF⟩ (OnlyF.of ho fun y hy => ?_) (fun _ hx => .inl hx), fun y hy hx => ?_⟩
  · have hy : y = q.HB i ∨ y = q.RB i := by simpa using hy
    rcases hy with rfl | rfl
    · exact hg.own hF (hg.lh i hi).1 (by omega)
    · exact hg.own hF (hg.lh i hi).2 (by omega)
  · have h1 := (hI.own_lt y hy).1
    have h2 := h.gang.lt y hx
    omega

theorem GRel.rob {w0 w : World} {F0 F : Nat → Prop} {q : GPar} {p : PlanL} {room m : Nat} {s : GSt} (h : GRel w0 F0 w q p room m s F) {i : Nat} (hi : i < m) :
    Calls Tryz.prog 144 #[.pointer (some ⟨q.HB i, 0, none⟩)] w fun e w' => ∃ v, e = .returned v ∧ Ints w' w.heap.size v ((s.ws i).ring.take (halfOf (s.ws i).ring)) ∧
      GRel w0 F0 w' q p room m ⟨s.done, s.spill, s.row, upW s.ws i ⟨(s.ws i).near, (s.ws i).ring.drop (halfOf (s.ws i).ring), (s.ws i).task, (s.ws i).left⟩⟩ F ∧ ∀ y ∈ own v, ¬ F y := by
  obtain ⟨lab, SS, SK, hg, hF⟩ := h.gang
  refine (Hand.rob _ _ _ _ _ w (hg.hands i hi)).mono ?_
  rintro e w' ⟨v, rfl, hI, hH, ho⟩
  refine ⟨v, rfl, hI, h.step ⟨lab, SS, SK, hg.setHand hi hH ho (by simp), hF⟩ (OnlyF.of ho fun y hy => ?_) (fun _ hx => .inl hx), fun y hy hx => ?_⟩
  · obtain rfl : y = q.RB i := by simpa using hy
    exact hg.own hF (hg.lh i hi).2 (by omega)
  · have h1 := (hI.own_lt y hy).1
    have h2 := h.gang.lt y hx
    omega

theorem GRel.take_near {w0 w : World} {F0 F : Nat → Prop} {q : GPar} {p : PlanL} {room m : Nat} {s : GSt} (h : GRel w0 F0 w q p room m s F) {i : Nat} (hi : i < m) (hn : 0 ≤ (s.ws i).near) :
    Calls Tryz.prog 141 #[.pointer (some ⟨q.HB i, 0, none⟩)] w fun e w' => e = .returned (.tuple #[.int .i64 (s.ws i).near, .nilIface]) ∧
      GRel w0 F0 w' q p room m ⟨s.done, s.spill, s.row, upW s.ws i ⟨-1, (s.ws i).ring, (s.ws i).task, (s.ws i).left⟩⟩ F := by
  obtain ⟨lab, SS, SK, hg, hF⟩ := h.gang
  refine (Hand.take_near _ _ _ _ _ w (hg.hands i hi) hn).mono ?_
  rintro e w' ⟨rfl, hH, ho⟩
  refine ⟨rfl, h.step ⟨lab, SS, SK, hg.setHand hi hH ho (by simp), hF⟩ (OnlyF.of ho fun y hy => ?_) (fun _ hx => .inl hx)⟩
  obtain rfl : y = q.HB i := by simpa using hy
  exact hg.own hF (hg.lh i hi).1 (by omega)

theorem GRel.take_ring {w0 w : World} {F0 F : Nat → Prop} {q : GPar} {p : PlanL} {room m : Nat} {s : GSt} (h : GRel w0 F0 w q p room m s F) {i : Nat} (hi : i < m) (hn : (s.ws i).near < 0) (hr : (s.ws i).ring ≠ []) :
    Calls Tryz.prog 141 #[.pointer (some ⟨q.HB i, 0, none⟩)] w fun e w' => e = .returned (.tuple #[.int .i64 ((s.ws i).ring.getLastD 0), .nilIface]) ∧
      GRel w0 F0 w' q p room m ⟨s.done, s.spill, s.row, upW s.ws i ⟨(s.ws i).near, (s.ws i).ring.dropLast, (s.ws i).task, (s.ws i).left⟩⟩ F := by
  obtain ⟨lab, SS, SK, hg, hF⟩ := h.gang
  have hl : (s.ws i).ring.dropLast ++ [(s.ws i).ring.getLastD 0] = (s.ws i).ring := by
    have := List.dropLast_concat_getLast hr
    rw [List.getLastD_eq_getLast?, List.getLast?_eq_some_getLast hr]
    exact this
  refine (Hand.take_ring _ _ room _ (s.ws i).ring.dropLast ((s.ws i).ring.getLastD 0) w (by rw [hl]; exact hg.hands i hi) hn).mono ?_
  rintro e w' ⟨rfl, hH, ho⟩
  refine ⟨rfl, h.step ⟨lab, SS, SK, hg.setHand hi hH ho (by simp), hF⟩ (OnlyF.of ho fun y hy => ?_) (fun _ hx => .inl hx)⟩
  obtain rfl : y = q.RB i := by simpa using hy
  exact hg.own hF (hg.lh i hi).2 (by omega)

theorem GRel.take_none {w0 w : World} {F0 F : Nat → Prop} {q : GPar} {p : PlanL} {room m : Nat} {s : GSt} (h : GRel w0 F0 w q p room m s F) {i : Nat} (hi : i < m) (hn : (s.ws i).near < 0) (hr : (s.ws i).ring = []) :
    Calls Tryz.prog 141 #[.pointer (some ⟨q.HB i, 0, none⟩)] w fun e w' => e = .returned (.tuple #[.int .i64 0, .iface 98 (.int .i64 5)]) ∧ w = w' := by
  obtain ⟨lab, SS, SK, hg, hF⟩ := h.gang
  exact Hand.take_none _ _ room w _ (by rw [← hr]; exact hg.hands i hi) hn


theorem GRel.spill_put {w0 w : World} {F0 F : Nat → Prop} {q : GPar} {p : PlanL} {room m : Nat} {s : GSt} (h : GRel w0 F0 w q p room m s F) (v : Value) (l : List Int) (hv : Reads w v l) (hd : ∀ y ∈ own v, ¬ F y) (hf : s.spill.length + l.length ≤ 60) :
    Calls Tryz.prog 89 #[.pointer (some ⟨q.S, 0, none⟩), v] w fun e w' => e = .returned .nilIface ∧ ∃ F', GRel w0 F0 w' q p room m ⟨s.done, s.spill ++ l, s.row, s.ws⟩ F' ∧ Kin' w F F' := by
  obtain ⟨lab, SS, SK, hg, hF⟩ := h.gang
  refine (Spill.put SS q.S room s.spill v l w hg.spill hv (fun x hx hy => hd x hx (hg.own hF (hg.l5 x hy) (by omega))) hf).mono ?_
  rintro e w' ⟨rfl, fp', hS, ho, hk⟩
  have hm := relab_more (w := w) (w' := w') (c := 5) (by omega) hF
  refine ⟨rfl, more F w w', h.step ⟨_, fp', SK, hg.setSpill hS ho hk, hm⟩ (OnlyF.of ho fun y hy => hg.own hF (hg.l5 y hy) (by omega)) (fun x hx => ?_), fun x hx => ?_⟩
  all_goals
    rcases hx with hx | hx
    · exact .inl hx
    · exact .inr hx.1

theorem GRel.spill_get {w0 w : World} {F0 F : Nat → Prop} {q : GPar} {p : PlanL} {room m : Nat} {s : GSt} (h : GRel w0 F0 w q p room m s F) :
    Calls Tryz.prog 142 #[.pointer (some ⟨q.S, 0, none⟩), .int .i64 1] w fun e w' => ∃ v, e = .returned (.tuple #[v, .nilIface]) ∧ Ints w' w.heap.size v (s.spill.take 1) ∧
      GRel w0 F0 w' q p room m ⟨s.done, s.spill.drop 1, s.row, s.ws⟩ F ∧ ∀ y ∈ own v, ¬ F y := by
  obtain ⟨lab, SS, SK, hg, hF⟩ := h.gang
  refine (Spill.get SS q.S room s.spill 1 w hg.spill (by omega) (by omega)).mono ?_
  rintro e w' ⟨v, rfl, hI, fp', hS, ho, hk⟩
  have hsame : GangAt w' lab q fp' SK p room m ⟨s.done, s.spill.drop 1, s.row, s.ws⟩ := by
    have hx := hg.setSpill hS ho (fun x hx => .inl (hk x hx))
    have hold : ∀ x, lab x ≠ 0 → relab lab w.heap.size w'.heap.size 5 x = lab x := fun x h0 => relab_old (hg.lt x h0)
    exact ⟨hx.cells, hx.plan, hx.join, hx.spill, hx.park, hx.row, hx.works, hx.hands, fun x h0 => by have := hg.lt x h0; have := ho.size; omega, hg.l1, hg.l2, hg.l3, hg.l4, hg.l4f, fun x hx => hg.l5 x (hk x hx), hg.l6, hg.lw, hg.lh, hg.m1, hg.m6, hg.mc, hg.cm⟩
  refine ⟨v, rfl, hI, h.step ⟨lab, fp', SK, hsame, hF⟩ (OnlyF.of ho fun y hy => hg.own hF (hg.l5 y hy) (by omega)) (fun _ hx => .inl hx), fun y hy hx => ?_⟩
  have h1 := (hI.own_lt y hy).1
  have h2 := h.gang.lt y hx
  omega


theorem GRel.done {w0 w : World} {F0 F : Nat → Prop} {q : GPar} {p : PlanL} {room m : Nat} {s : GSt} (h : GRel w0 F0 w q p room m s F) (i : Nat) (hi : i < p.length) (hr : readyB p s.done i = true) :
    Calls Tryz.prog 138 #[.pointer (some ⟨q.J, 0, none⟩), .int .i64 i] w fun e w' => ∃ v, e = .returned (.tuple #[v, .nilIface]) ∧ Ints w' w.heap.size v (natL (newL p s.done i)) ∧
      GRel w0 F0 w' q p room m ⟨upB s.done i, s.spill, s.row, s.ws⟩ F ∧ ∀ y ∈ own v, ¬ F y := by
  obtain ⟨lab, SS, SK, hg, hF⟩ := h.gang
  refine (Join.done q.SJ q.FJ q.J p s.done i w hg.join hi hr).mono ?_
  rintro e w' ⟨v, rfl, hI, hJ, ho⟩
  refine ⟨v, rfl, hI, h.step ⟨lab, SS, SK, hg.setJoin hJ ho, hF⟩ (OnlyF.of ho fun y hy => hg.own hF (hg.l4 y hy) (by omega)) (fun _ hx => .inl hx), fun y hy hx => ?_⟩
  have h1 := (hI.own_lt y hy).1
  have h2 := h.gang.lt y hx
  omega

theorem GRel.awake {w0 w : World} {F0 F : Nat → Prop} {q : GPar} {p : PlanL} {room m : Nat} {s : GSt} (h : GRel w0 F0 w q p room m s F) {i : Nat} (hi : i < m) (r : Bool) (hr : decide ((i : Int) ∈ s.row) = r) :
    Calls Tryz.prog 94 #[.pointer (some ⟨q.K, 0, none⟩), .int .i64 i] w fun e w' => e = .returned (.tuple #[.bool (!r), .nilIface]) ∧ w = w' := by
  obtain ⟨lab, SS, SK, hg, hF⟩ := h.gang
  exact Park.awake SK q.K m s.row i w hg.park (by omega) (by omega) r hr

theorem GRel.sleep {w0 w : World} {F0 F : Nat → Prop} {q : GPar} {p : PlanL} {room m : Nat} {s : GSt} (h : GRel w0 F0 w q p room m s F) {i : Nat} (hi : i < m) (hr : (i : Int) ∉ s.row) (hl : s.row.length ≤ 6) :
    Calls Tryz.prog 97 #[.pointer (some ⟨q.K, 0, none⟩), .int .i64 i] w fun e w' => e = .returned .nilIface ∧ ∃ F', GRel w0 F0 w' q p room m ⟨s.done, s.spill, s.row ++ [(i : Int)], s.ws⟩ F' ∧ Kin' w F F' ∧ OnlyF F w w' := by
  obtain ⟨lab, SS, SK, hg, hF⟩ := h.gang
  refine (Park.sleep SK q.K m s.row i w hg.park (by omega) (by omega) hr (by omega)).mono ?_
  rintro e w' ⟨rfl, fp', hS, ho, hk⟩
  have hm := relab_more (w := w) (w' := w') (c := 6) (by omega) hF
  have hoF : OnlyF F w w' := OnlyF.of ho fun y hy => hg.own hF (hg.l6 y hy) (by omega)
  refine ⟨rfl, more F w w', h.step ⟨_, SS, fp', hg.setPark hS ho (fun _ h => h) hk, hm⟩ hoF (fun x hx => ?_), fun x hx => ?_, hoF⟩
  all_goals
    rcases hx with hx | hx
    · exact .inl hx
    · exact .inr hx.1

theorem GRel.wake {w0 w : World} {F0 F : Nat → Prop} {q : GPar} {p : PlanL} {room m : Nat} {s : GSt} (h : GRel w0 F0 w q p room m s F) (n : Nat) (hn : n ≤ 30) :
    Calls Tryz.prog 140 #[.pointer (some ⟨q.K, 0, none⟩), .int .i64 n] w fun e w' => ∃ v, e = .returned (.tuple #[v, .nilIface]) ∧ Ints w' w.heap.size v (s.row.take n) ∧
      ∃ F', GRel w0 F0 w' q p room m ⟨s.done, s.spill, s.row.drop n, s.ws⟩ F' ∧ Kin' w F F' ∧ OnlyF F w w' := by
  obtain ⟨lab, SS, SK, hg, hF⟩ := h.gang
  refine (Park.wake SK q.K m s.row n w hg.park (by omega) (by omega)).mono ?_
  rintro e w' ⟨v, rfl, hI, fp', hS, ho, hk, hd⟩
  rw [Int.toNat_natCast] at hI hS
  have hm := relab_more (w := w) (w' := w') (c := 6) (by omega) hF
  have hb : q.K ∈ SK := by
    obtain ⟨⟨rv, _, _, rfl, _⟩, _⟩ := hg.park
    simp
  have hT : ∀ x ∈ [q.K], x ∈ SK := fun x hx => by
    obtain rfl : x = q.K := by simpa using hx
    exact hb
  have hoF : OnlyF F w w' := OnlyF.of ho fun y hy => hg.own hF (hg.l6 y (hT y hy)) (by omega)
  refine ⟨v, rfl, hI, more F w w', h.step ⟨_, SS, fp', hg.setPark hS ho hT hk, hm⟩ hoF (fun x hx => ?_), fun x hx => ?_, hoF⟩
  all_goals
    rcases hx with hx | hx
    · exact .inl hx
    · exact .inr hx.1

theorem GRel.left {w0 w : World} {F0 F : Nat → Prop} {q : GPar} {p : PlanL} {room m : Nat} {s : GSt} (h : GRel w0 F0 w q p room m s F) :
    Calls Tryz.prog 39 #[.pointer (some ⟨q.J, 0, none⟩)] w fun e w' => e = .returned (.int .i64 (leftN p s.done : Int)) ∧ w = w' := by
  obtain ⟨lab, SS, SK, hg, hF⟩ := h.gang
  exact Join.left _ _ _ _ _ w hg.join

/-- A worker's own cells are set. -/
theorem GRel.set {w0 w w' : World} {F0 F : Nat → Prop} {q : GPar} {p : PlanL} {room m : Nat} {s : GSt} (h : GRel w0 F0 w q p room m s F) {i : Nat} (hi : i < m) {task left : Int} (hc : Cells w' (q.WB i) [.pointer (some ⟨q.HB i, 0, none⟩), .int .i64 task, .int .i64 left]) (ho : Only [q.WB i] w w') :
    GRel w0 F0 w' q p room m ⟨s.done, s.spill, s.row, upW s.ws i ⟨(s.ws i).near, (s.ws i).ring, task, left⟩⟩ F := by
  obtain ⟨lab, SS, SK, hg, hF⟩ := h.gang
  refine h.step ⟨lab, SS, SK, hg.setWork hi hc ho, hF⟩ (OnlyF.of ho fun y hy => ?_) (fun _ hx => .inl hx)
  obtain rfl : y = q.WB i := by simpa using hy
  exact hg.own hF (hg.lw i hi) (by omega)

/-- What a walk reads. -/
theorem GRel.cells {w0 w : World} {F0 F : Nat → Prop} {q : GPar} {p : PlanL} {room m : Nat} {s : GSt} (h : GRel w0 F0 w q p room m s F) :
    Cells w q.G [q.pv, .pointer (some ⟨q.J, 0, none⟩), .pointer (some ⟨q.S, 0, none⟩), .pointer (some ⟨q.K, 0, none⟩), .slice (some ⟨q.L, 0, none⟩) m q.cap] ∧ InPlan w q.pv p ∧ (∀ i, i < m → w.cell? ⟨q.L, i, none⟩ = some (.pointer (some ⟨q.WB i, 0, none⟩))) ∧
    (∀ i, i < m → Cells w (q.WB i) [.pointer (some ⟨q.HB i, 0, none⟩), .int .i64 (s.ws i).task, .int .i64 (s.ws i).left]) ∧ (∀ i, i < m → F (q.WB i)) ∧ 1 ≤ m ∧ m ≤ 6 ∧ m ≤ q.cap ∧ q.cap ≤ maxLen ∧ 1 ≤ room ∧ room ≤ 16 ∧ PlanOk p := by
  obtain ⟨lab, SS, SK, hg, hF⟩ := h.gang
  exact ⟨hg.cells, hg.plan.plan, hg.row, hg.works, fun i hi => hg.own hF (hg.lw i hi) (by omega), hg.m1, hg.m6, hg.mc, hg.cm, hg.spill.room.1, hg.spill.room.2, hg.join.ok⟩

end Go.Proofs.YtoofalchkedciaaGreatDoor

namespace Go.Proofs.YtoofalchkedciaaGreatDoor
open Go.RowKit Go.Deep

theorem wpList_rows {t e : TypeId} {k bytes : Nat} (hT : SliceOf t e k bytes) {ops : Array Oper} {rest : List Oper} {o : Oper} {a : Act} {w : World} {Q : Exit → Act → World → Prop} (hgd : o.guard = none) (s x : Operand)
    (ho : o.op = .call { callee := .builtin .append, args := #[s, x], argTypes := #[t, t] })
    (W : World) (base : Nat) (v : Value) (n : Nat) (xs : List Value) (B : Nat) (ys : List Value) (hown : W.ownsRow base e k v n xs) (hlen : n + 1 ≤ 1000000000) (hbase : base ≤ W.heap.size)
    (hs : a.eval s = v) (hx : a.eval x = .slice (some ⟨B, 0, none⟩) 1 1) (hW : Only [] W w) (hl : ys.length = k) (hc : ∀ j u, ys[j]? = some u → w.cell? ⟨B, j, none⟩ = some u) (h1 : ∀ u ∈ ys, u.oneCell' = true)
    (h : ∀ g cap w', w'.ownsRow base e k (.slice (some ⟨g, 0, none⟩) (n + 1) cap) (n + 1) (xs ++ ys) → Only (own v) W w' → (g ∈ own v ∨ W.heap.size ≤ g) →
      wpList Tryz.prog ops Q rest (a.put o.dst (.slice (some ⟨g, 0, none⟩) (n + 1) cap)) w') : wpList Tryz.prog ops Q (o :: rest) a w := by
  obtain ⟨i0, z, hi, hz0, hz1, hz2, hz3⟩ := hT.info
  have hb := hW.size
  have hsm := hT.small
  have hby : (n + 1) * bytes ≤ 140737488355328 := by
    have : (n + 1) * bytes ≤ (n + 1) * 100 := Nat.mul_le_mul_left _ hsm
    omega
  refine wpList_append_lies w hgd s x t ho base e i0 z k bytes hT.under hi hz0 hz1 hz2 hz3 hT.pos v n xs hs (Row.same hown hW) ⟨B, 0, none⟩ 1 1 ys hx (by simpa using hl) ?_ h1 (by decide) (by unfold maxLen; omega) hby (by omega) _ rfl ?_
  · intro j u hj
    have e : ((⟨B, 0, none⟩ : Addr).add j) = ⟨B, j, none⟩ := by unfold Addr.add; split <;> simp_all
    rw [e]
    exact hc j u hj
  · intro g cap w' k1 k2 k3 _
    exact h g cap w' k1 ((hW.mono (by simp)).grown k2 (fun k hk _ => by simp [own, hk])) (k3.imp (fun e => by simp [own, e]) (fun e => by omega))

/-- .. an element of one cell. -/
theorem wpList_row1 {t e : TypeId} {bytes : Nat} (hT : SliceOf t e 1 bytes) {ops : Array Oper} {rest : List Oper} {o : Oper} {a : Act} {w : World} {Q : Exit → Act → World → Prop} (hgd : o.guard = none) (s x : Operand)
    (ho : o.op = .call { callee := .builtin .append, args := #[s, x], argTypes := #[t, t] })
    (W : World) (base : Nat) (v : Value) (n : Nat) (xs : List Value) (B : Nat) (u : Value) (hown : W.ownsRow base e 1 v n xs) (hlen : n + 1 ≤ 1000000000) (hbase : base ≤ W.heap.size)
    (hs : a.eval s = v) (hx : a.eval x = .slice (some ⟨B, 0, none⟩) 1 1) (hW : Only [] W w) (hc : w.cell? ⟨B, 0, none⟩ = some u) (h1 : u.oneCell' = true)
    (h : ∀ g cap w', w'.ownsRow base e 1 (.slice (some ⟨g, 0, none⟩) (n + 1) cap) (n + 1) (xs ++ [u]) → Only (own v) W w' → (g ∈ own v ∨ W.heap.size ≤ g) →
      wpList Tryz.prog ops Q rest (a.put o.dst (.slice (some ⟨g, 0, none⟩) (n + 1) cap)) w') : wpList Tryz.prog ops Q (o :: rest) a w :=
  wpList_rows hT hgd s x ho W base v n xs B [u] hown hlen hbase hs hx hW rfl (fun j y hj => by
    rcases j with _ | j
    · simp at hj; subst hj; exact hc
    · simp at hj) (fun y hy => by simp at hy; subst hy; exact h1) h

end Go.Proofs.YtoofalchkedciaaGreatDoor

namespace Go.Proofs.YtoofalchkedciaaGreatDoor
open Go.RowKit

theorem lit_ints {W : World} {b : Nat} {cs : Array Value} {t : TypeId} (h : W.heap[b]? = some (.cells cs t (0, 0))) (l : List Int) (hcs : cs.toList = l.map (Value.int .i64)) (hn : l.length ≤ 1000) :
    Reads W (.slice (some ⟨b, 0, none⟩) l.length l.length) l := by
  by_cases h0 : l = []
  · subst h0
    exact .inl ⟨rfl, .inr ⟨_, 0, rfl, by unfold maxLen; omega⟩⟩
  · refine .inr ⟨List.length_pos_iff.2 h0, b, 0, l.length, rfl, Nat.le_refl _, by unfold maxLen; omega, fun i hi => ?_⟩
    rw [Nat.zero_add, cell_of_row W b i cs t (0, 0) h, ← Array.getElem?_toList, hcs]
    simp [nth, hi]

theorem lit_plan {W : World} {B : Nat} {cs : Array Value} {t : TypeId} (h : W.heap[B]? = some (.cells cs t (0, 0))) (p : PlanL) (N : Nat → Value) (hcs : cs.toList = flatP p N p.length) (hn : p.length ≤ 1000)
    (hr : ∀ i, i < p.length → Reads W (N i) (ndOf p i)) : InPlan W (.slice (some ⟨B, 0, none⟩) p.length p.length) p := by
  refine ⟨N, ⟨_, p.length, rfl, Nat.le_refl _, by unfold maxLen; omega, (fun h => by cases h), fun i hi => ⟨B, 0, rfl, ?_, ?_⟩⟩, hr, fun _ _ _ => trivial, fun _ _ _ _ _ => trivial⟩
  · rw [Nat.zero_add, cell_of_row W B _ cs t (0, 0) h, ← Array.getElem?_toList, hcs]
    exact flatP_0 _ _ _ _ hi
  · rw [Nat.zero_add, cell_of_row W B _ cs t (0, 0) h, ← Array.getElem?_toList, hcs]
    exact flatP_1 _ _ _ _ hi

theorem heap_alloc_old (w : World) (o : Obj) (k : Nat) (h : k < w.heap.size) : (w.alloc o).heap[k]? = w.heap[k]? := Below.heap_alloc w o k h
theorem heap_alloc_at (w : World) (o : Obj) (k : Nat) (h : k = w.heap.size) : (w.alloc o).heap[k]? = some o := by subst h; exact heap_alloc_new w o

/-- Two tasks of one unit each, the second behind the first. -/
theorem lit_two (W : World) : InPlan ((W.alloc (.cells #[.int .i64 0] 3)).alloc (.cells #[.int .i64 1, .slice none 0 0, .int .i64 1, .slice (some ⟨W.heap.size, 0, none⟩) 1 1] 94)) (.slice (some ⟨W.heap.size + 1, 0, none⟩) 2 2) [(1, []), (1, [0])] := by
  refine lit_plan (heap_alloc_at _ _ _ (by simp)) [(1, []), (1, [0])] (fun i => if i = 0 then .slice none 0 0 else .slice (some ⟨W.heap.size, 0, none⟩) 1 1) ?_ (by simp) ?_
  · rfl
  · intro i hi
    have : i = 0 ∨ i = 1 := by simp at hi; omega
    rcases this with rfl | rfl
    · exact .inl ⟨rfl, .inl rfl⟩
    · refine lit_ints (cs := #[.int .i64 0]) (t := 3) ?_ [0] rfl (by simp)
      rw [heap_alloc_old _ _ _ (by simp)]
      exact heap_alloc_new _ _

end Go.Proofs.YtoofalchkedciaaGreatDoor

namespace Go.Proofs.YtoofalchkedciaaGreatDoor
open Go.RowKit Go.Deep

theorem sliceOf_workers : SliceOf 169 175 1 8 := sliceOf_parts (z := .pointer none) Tryz.underlying169 (by kernel_rfl) rfl (by omega) (by omega)

def updA (f : Nat → Nat) (j x : Nat) : Nat → Nat := fun i => if i = j then x else f i
def ptrs (i : Nat) (WB : Nat → Nat) : List Value := (List.range i).map fun k => .pointer (some ⟨WB k, 0, none⟩)
theorem ptrs_push (i : Nat) (WB : Nat → Nat) : ptrs (i + 1) WB = ptrs i WB ++ [.pointer (some ⟨WB i, 0, none⟩)] := by simp [ptrs, List.range_succ]
theorem ptrs_congr (i : Nat) (W V : Nat → Nat) (h : ∀ k, k < i → W k = V k) : ptrs i W = ptrs i V := by
  unfold ptrs
  exact List.map_congr_left fun k hk => by rw [h k (by simpa using hk)]
theorem ptrs_len (i : Nat) (WB : Nat → Nat) : (ptrs i WB).length = i := by simp [ptrs]

/-- A gang while its workers come. -/
structure NewAt (w : World) (lab : Nat → Nat) (G J S K : Nat) (pv lv : Value) (SJ SS SK : List Nat) (FJ FP : Nat → Prop) (WB HB RB : Nat → Nat) (p : PlanL) (room m i : Nat) : Prop where
  cells : Cells w G [pv, .pointer (some ⟨J, 0, none⟩), .pointer (some ⟨S, 0, none⟩), .pointer (some ⟨K, 0, none⟩), lv]
  plan : PlanAt w FP pv p
  join : JoinIs w SJ FJ J p (fun _ => false)
  spill : SpillIs w SS S room []
  park : ParkIs w SK K m []
  row : w.ownsRow 0 175 1 lv i (ptrs i WB)
  works : ∀ k, k < i → Cells w (WB k) [.pointer (some ⟨HB k, 0, none⟩), .int .i64 (-1), .int .i64 0]
  hands : ∀ k, k < i → HandIs w (HB k) (RB k) (-1) room []
  lt : ∀ x, lab x ≠ 0 → x < w.heap.size
  l1 : lab G = 1
  l2 : ∀ x ∈ own lv, lab x = 2
  l3 : ∀ x, FP x → lab x = 3
  l4 : ∀ x ∈ SJ, lab x = 4
  l4f : ∀ x, FJ x → lab x = 4
  l5 : ∀ x ∈ SS, lab x = 5
  l6 : ∀ x ∈ SK, lab x = 6
  lw : ∀ k, k < i → lab (WB k) = 10 + 2 * k
  lh : ∀ k, k < i → lab (HB k) = 11 + 2 * k ∧ lab (RB k) = 11 + 2 * k

/-- One worker more. -/
theorem NewAt.more {w w1 w3 : World} {lab : Nat → Nat} {G J S K b rb : Nat} {pv lv lv' : Value} {SJ SS SK T : List Nat} {FJ FP : Nat → Prop} {WB HB RB : Nat → Nat} {p : PlanL} {room m i : Nat} (h : NewAt w lab G J S K pv lv SJ SS SK FJ FP WB HB RB p room m i)
    (ho1 : Only [] w w1) (hH : HandIs w1 b rb (-1) room []) (hb : w.heap.size ≤ b) (hrb : w.heap.size ≤ rb) (hC : Cells w3 w1.heap.size [.pointer (some ⟨b, 0, none⟩), .int .i64 (-1), .int .i64 0])
    (ho3 : Only T w1 w3) (hT : ∀ x ∈ T, x = G ∨ x ∈ own lv ∨ w1.heap.size ≤ x) (hcells : Cells w3 G [pv, .pointer (some ⟨J, 0, none⟩), .pointer (some ⟨S, 0, none⟩), .pointer (some ⟨K, 0, none⟩), lv'])
    (hrow : w3.ownsRow 0 175 1 lv' (i + 1) (ptrs i WB ++ [.pointer (some ⟨w1.heap.size, 0, none⟩)])) (hk : ∀ x ∈ own lv', x ∈ own lv ∨ w1.heap.size + 1 ≤ x) :
    ∃ lab', NewAt w3 lab' G J S K pv lv' SJ SS SK FJ FP (updA WB i w1.heap.size) (updA HB i b) (updA RB i rb) p room m (i + 1) ∧ ∀ x, lab' x ≠ 0 → lab x ≠ 0 ∨ w.heap.size ≤ x := by
  have hs1 := ho1.size
  have hs3 := ho3.size
  have hbl := hH.cells.lt
  have hrl := hH.ring.lt
  have hwl := hC.lt
  have hfar := Row.far hrow
  obtain ⟨lab', hl⟩ : ∃ lab' : Nat → Nat, lab' = fun x => if x < w.heap.size then lab x else if x = w1.heap.size then 10 + 2 * i else if x = b ∨ x = rb then 11 + 2 * i else if w1.heap.size + 1 ≤ x ∧ x ∈ own lv' then 2 else 0 := ⟨_, rfl⟩
  have hlv : ∀ x, lab' x = if x < w.heap.size then lab x else if x = w1.heap.size then 10 + 2 * i else if x = b ∨ x = rb then 11 + 2 * i else if w1.heap.size + 1 ≤ x ∧ x ∈ own lv' then 2 else 0 := fun x => by rw [hl]
  have old : ∀ {x c : Nat}, lab x = c → c ≠ 0 → lab' x = c := fun {x c} e hc => by rw [hl]; simp only; rw [if_pos (h.lt x (by omega))]; exact e
  have nT : ∀ x, lab x ≠ 0 → lab x ≠ 1 → lab x ≠ 2 → x ∉ T := fun x h0 h1 h2 hx => by
    rcases hT x hx with rfl | hx | hx
    · exact h1 h.l1
    · exact h2 (h.l2 x hx)
    · have := h.lt x h0; omega
  have nb : b ∉ T := fun hx => by
    rcases hT b hx with rfl | hx | hx
    · have := h.lt b (by rw [h.l1]; omega); omega
    · have := h.lt b (by rw [h.l2 b hx]; omega); omega
    · omega
  have nrb : rb ∉ T := fun hx => by
    rcases hT rb hx with rfl | hx | hx
    · have := h.lt rb (by rw [h.l1]; omega); omega
    · have := h.lt rb (by rw [h.l2 rb hx]; omega); omega
    · omega
  have ho : Only T w w3 := (ho1.mono (by simp)).trans ho3 (fun x hx _ => hx)
  refine ⟨lab', ⟨hcells, h.plan.only ho (fun x hx => nT x (by rw [h.l3 x hx]; omega) (by rw [h.l3 x hx]; omega) (by rw [h.l3 x hx]; omega)), h.join.only ho (fun x hx => nT x (by rw [h.l4 x hx]; omega) (by rw [h.l4 x hx]; omega) (by rw [h.l4 x hx]; omega)) (fun x hx => nT x (by rw [h.l4f x hx]; omega) (by rw [h.l4f x hx]; omega) (by rw [h.l4f x hx]; omega)),
    h.spill.only ho (fun x hx => nT x (by rw [h.l5 x hx]; omega) (by rw [h.l5 x hx]; omega) (by rw [h.l5 x hx]; omega)), h.park.only ho (fun x hx => nT x (by rw [h.l6 x hx]; omega) (by rw [h.l6 x hx]; omega) (by rw [h.l6 x hx]; omega)), ?_, fun k hki => ?_, fun k hki => ?_, fun x hx => ?_, old h.l1 (by omega), fun x hx => ?_,
    fun x hx => old (h.l3 x hx) (by omega), fun x hx => old (h.l4 x hx) (by omega), fun x hx => old (h.l4f x hx) (by omega), fun x hx => old (h.l5 x hx) (by omega), fun x hx => old (h.l6 x hx) (by omega), fun k hki => ?_, fun k hki => ?_⟩, fun x hx => ?_⟩
  · rw [ptrs_push, ptrs_congr i _ WB (fun k hk => by simp [updA]; omega)]
    rw [show updA WB i w1.heap.size i = w1.heap.size by simp [updA]]
    exact hrow
  · by_cases e : k = i
    · subst e; rw [show updA WB k w1.heap.size k = w1.heap.size by simp [updA], show updA HB k b k = b by simp [updA]]; exact hC
    · rw [show updA WB i w1.heap.size k = WB k by simp [updA, e], show updA HB i b k = HB k by simp [updA, e]]
      exact (h.works k (by omega)).only ho (nT _ (by rw [h.lw k (by omega)]; omega) (by rw [h.lw k (by omega)]; omega) (by rw [h.lw k (by omega)]; omega))
  · by_cases e : k = i
    · subst e; rw [show updA HB k b k = b by simp [updA], show updA RB k rb k = rb by simp [updA]]; exact hH.only ho3 nb nrb
    · rw [show updA HB i b k = HB k by simp [updA, e], show updA RB i rb k = RB k by simp [updA, e]]
      obtain ⟨e1, e2⟩ := h.lh k (by omega)
      exact (h.hands k (by omega)).only ho (nT _ (by rw [e1]; omega) (by rw [e1]; omega) (by rw [e1]; omega)) (nT _ (by rw [e2]; omega) (by rw [e2]; omega) (by rw [e2]; omega))
  · rw [hl] at hx
    simp only at hx
    split at hx
    · omega
    · split at hx
      · omega
      · split at hx
        · rename_i e; rcases e with e | e <;> omega
        · split at hx
          · rename_i e; exact (hfar x e.2).2
          · omega
  · rcases hk x hx with h1 | h1
    · exact old (h.l2 x h1) (by omega)
    · rw [hl]
      simp only
      rw [if_neg (by omega), if_neg (by omega), if_neg (by omega), if_pos ⟨h1, hx⟩]
  · by_cases e : k = i
    · subst e; rw [show updA WB k w1.heap.size k = w1.heap.size by simp [updA], hlv, if_neg (by omega), if_pos rfl]
    · rw [show updA WB i w1.heap.size k = WB k by simp [updA, e]]; exact old (h.lw k (by omega)) (by omega)
  · by_cases e : k = i
    · subst e
      rw [show updA HB k b k = b by simp [updA], show updA RB k rb k = rb by simp [updA], hlv, hlv, if_neg (by omega), if_neg (by omega), if_pos (.inl rfl), if_neg (by omega), if_neg (by omega), if_pos (.inr rfl)]
      exact ⟨rfl, rfl⟩
    · rw [show updA HB i b k = HB k by simp [updA, e], show updA RB i rb k = RB k by simp [updA, e]]
      exact ⟨old (h.lh k (by omega)).1 (by omega), old (h.lh k (by omega)).2 (by omega)⟩
  · rw [hl] at hx
    simp only at hx
    split at hx
    · exact .inl hx
    · right; omega

/-- All are there. -/
theorem NewAt.gang {w : World} {lab : Nat → Nat} {G J S K : Nat} {pv lv : Value} {SJ SS SK : List Nat} {FJ FP : Nat → Prop} {WB HB RB : Nat → Nat} {p : PlanL} {room m : Nat} (h : NewAt w lab G J S K pv lv SJ SS SK FJ FP WB HB RB p room m m) (h1 : 1 ≤ m) (h6 : m ≤ 6) :
    ∃ L cap, GangAt w lab ⟨G, J, S, K, L, cap, pv, SJ, FJ, FP, WB, HB, RB⟩ SS SK p room m ⟨fun _ => false, [], [], fun _ => ⟨-1, [], -1, 0⟩⟩ := by
  obtain ⟨a, cap, rfl, hc, hm, hf⟩ := Row.form h.row
  obtain ⟨L, rfl, _, _⟩ := hf (by omega)
  refine ⟨L, cap, ⟨h.cells, h.plan, h.join, h.spill, h.park, fun k hk => ?_, h.works, h.hands, h.lt, h.l1, h.l2 L (by simp [own, Value.ownBlock]), h.l3, h.l4, h.l4f, h.l5, h.l6, h.lw, h.lh, h1, h6, hc, hm⟩⟩
  rw [World.ownsRow.cellAt h.row k (by omega)]
  simp [ptrs, hk]

/-- What gang.New refuses. -/
noncomputable def gErr (p : PlanL) (hands room : Int) : Int := if planFault p = 0 then (if 1 ≤ hands ∧ hands ≤ 6 ∧ 1 ≤ room ∧ room ≤ 16 then 0 else 1) else planFault p

end Go.Proofs.YtoofalchkedciaaGreatDoor
