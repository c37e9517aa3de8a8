/-
  Contract of a step of the document's gang: all but the end of a task.
  Contract of a step of the document's gang: a hand that sleeps, or robs.
-/
import Derived.Test.YtocpmncedlenbaaGreatDoorP37GangPlays
import Derived.Test.YtocpmncedlenbaaGreatDoorP30GangPlays
namespace Go.Proofs.YtocpmncedlenbaaGreatDoor
open Go.RowKit Go.Deep

theorem upW_up' (f : Nat → Wk) (h : Nat) (a b : Wk) : upW (upW f h a) h b = upW f h b := by
  funext i; unfold upW; split <;> rfl

set_option maxRecDepth 100000 in
theorem ref_gtake {w0 w1 w : World} {F0 F : Nat → Prop} {q : RPar} {p : PlanL} {room m : Nat} {s : GSt} (h : RRel w0 w1 F0 w q p room m s F) {i : Nat} (hi : i < m) (t : Nat) (ht : t < p.length) :
    Calls Tryz.prog 80 #[.pointer (some ⟨q.G, 0, none⟩), .int .i64 i, .int .i64 t] w fun e w' => e = .returned (.tuple #[]) ∧ RRel w0 w1 F0 w' q p room m ⟨s.done, s.spill, s.row, upW s.ws i ⟨(s.ws i).near, (s.ws i).ring, (t : Int), wkOf p t⟩⟩ F ∧ Only [q.T, q.U] w w' := by
  have h1 := h.task (i := i) (t : Int)
  obtain ⟨vf, vh, vr, hC, hP, _, hT, hU, _, _, _, m1, m6, _, _, mc, cm, _⟩ := h.cells
  obtain ⟨vf1, vh1, vr1, hC1, hP1, _, hT1, hU1, _⟩ := h1.cells
  have h30 := h1.cells
  have c2 := hC.cell 2 _ rfl
  obtain ⟨t0, f0⟩ : w.cell? ⟨q.T, i, none⟩ = some (.int .i64 (s.ws i).task) ∧ w.frozen? ⟨q.T, i, none⟩ = false := hT i hi
  obtain ⟨W1, hW1⟩ : ∃ W1, w.setCell ⟨q.T, i, none⟩ (.int .i64 (t : Int)) = W1 := ⟨_, rfl⟩
  rw [hW1] at h1 hC1 hP1 hU1
  have c3 := hC1.cell 3 _ rfl
  have c0 := hC1.cell 0 _ rfl
  obtain ⟨u0, g0⟩ := hU1 i hi
  obtain ⟨pa, pc, hpv, hpl, hpm, hpt⟩ := hP1.task
  obtain ⟨pb, po, u, hpa, z0, _⟩ := hpt t ht
  subst hpa
  rw [hpv] at c0
  have z0'' : W1.cell? ⟨pb, po + t * 2 + 0, none⟩ = some (.int .i64 (wkOf p t)) := z0
  have H1 := Lib.hid (fun (W : World) (ho : Only [] W1 W) => (h1.same ho).left (i := i) (wkOf p t))
  simp only [upW_same, upW_up'] at H1
  obtain ⟨n, hn⟩ : ∃ n, p.length = n := ⟨_, rfl⟩
  rw [hn] at c0 ht hpl
  have HO := Lib.hid (show Only [q.T, q.U] w W1 by rw [← hW1]; exact (Only.refl _ w).setCell (by simp) _)
  have HW1 := Lib.hid hW1
  have HU1 := Lib.hid hU1
  clear h h1 hC hP hT hU hC1 hP1 hT1 hU1 h30 hpv hpt hn hW1
  go_enter Tryz.func80, Tryz.ntmps80
  go_wp2_with fail
  rw [HW1.out]
  go_still_tail 14, (by kernel_rfl)
  go_wp2_with fail
  go_end0
  exact ⟨rfl, (H1.out W1 (Only.refl _ _)).same (Only.refl [] _).drew, (HO.out.setCell (by simp) _).drew⟩

/-- How a step ends. -/
def RDone (w0 w : World) (F : Nat → Prop) (q : RPar) (p : PlanL) (room m : Nat) (r : GSt × List Dd) (e : Ending) (w' : World) : Prop :=
  ∃ v F', e = .returned v ∧ OwnDeeds w' w.heap.size v r.2 ∧ RRel w0 w F w' q p room m r.1 F'

theorem deed_alloc {w : World} {base : Nat} (d : Dd) (hb : base ≤ w.heap.size) : OwnDeeds (w.alloc (.cells #[.int .i64 d.what, .int .i64 d.hand, .int .i64 d.task, .int .i64 d.other] 88)) base (.slice (some ⟨w.heap.size, 0, none⟩) 1 1) [d] :=
  ⟨by simp [flatE, ddCells], .inr ⟨w.heap.size, 1, _, rfl, hb, heap_alloc_new w _, Nat.le_refl _, by unfold maxLen; omega, rfl, rfl⟩⟩

set_option maxRecDepth 100000 in
theorem ref_asleep {w0 w : World} {F : Nat → Prop} {q : RPar} {p : PlanL} {room m : Nat} {s : GSt} (h : RGangIs w0 w q p room m s F) (H : GInv p room m s) (i : Nat) (pick : Nat) (hr : (i : Int) ∈ s.row) :
    Calls Tryz.prog 20 #[.pointer (some ⟨q.G, 0, none⟩), .int .i64 i, .int .i64 pick] w (RDone w0 w F q p room m (gStep p room m s i pick)) := by
  have R := RRel.start h
  have HR := Lib.hid R
  obtain ⟨vf, vh, vr, hC, _, _, _, _, _, hrd, _, m1, m6, _⟩ := R.cells
  have c7 := hC.cell 7 _ rfl
  have hin := ref_in vr s.row (i : Int) w hrd (by have := H.row_len; omega) true (by simpa using hr)
  have e : gStep p room m s i pick = (s, []) := if_pos hr
  rw [e]
  clear h H R hC e hr hrd
  go_enter Tryz.func20, Tryz.ntmps20
  go_wp2_with fail
  refine hin.mono ?_
  rintro e w1 ⟨rfl, rfl⟩
  clear hin
  go_wp2
  go_ret
  exact ⟨_, F, rfl, OwnDeeds.nil _ _, HR.out⟩

set_option maxRecDepth 100000 in
theorem ref_unit {w0 w : World} {F : Nat → Prop} {q : RPar} {p : PlanL} {room m : Nat} {s : GSt} (h : RGangIs w0 w q p room m s F) (H : GInv p room m s) (hok : PlanOk p) {i : Nat} (hi : i < m) (pick : Nat) (hr : (i : Int) ∉ s.row) (ht : 0 ≤ (s.ws i).task) (hl : 1 < (s.ws i).left) :
    Calls Tryz.prog 20 #[.pointer (some ⟨q.G, 0, none⟩), .int .i64 i, .int .i64 pick] w (RDone w0 w F q p room m (gStep p room m s i pick)) := by
  have R := RRel.start h
  obtain ⟨vf, vh, vr, hC, _, _, hT, hU, _, hrd, _, m1, m6, _, _, mc, cm, _⟩ := R.cells
  obtain ⟨t, htt, htr⟩ := H.task hi ht
  have hlb := (H.left i hi ht).2
  have hw20 := (hok.work t (readyL_mem.1 htr).1).2
  have h20 : (s.ws i).left ≤ 20 := by rw [htt, Int.toNat_natCast] at hlb; omega
  have c7 := hC.cell 7 _ rfl
  have c2 := hC.cell 2 _ rfl
  have c3 := hC.cell 3 _ rfl
  obtain ⟨t0, f0⟩ : w.cell? ⟨q.T, i, none⟩ = some (.int .i64 (s.ws i).task) ∧ w.frozen? ⟨q.T, i, none⟩ = false := hT i hi
  obtain ⟨u0, g0⟩ : w.cell? ⟨q.U, i, none⟩ = some (.int .i64 (s.ws i).left) ∧ w.frozen? ⟨q.U, i, none⟩ = false := hU i hi
  have HS := Lib.hid (R.left (i := i) ((s.ws i).left - 1))
  have hne := R.ne.1
  have hne2 : ¬ q.G = q.U := fun e => hne e.symm
  have hin := ref_in vr s.row (i : Int) w hrd (by have := H.row_len; omega) false (by simpa using hr)
  have e : gStep p room m s i pick = (⟨s.done, s.spill, s.row, upW s.ws i ⟨(s.ws i).near, (s.ws i).ring, (s.ws i).task, (s.ws i).left - 1⟩⟩, []) := by
    unfold gStep gWork; rw [if_neg hr, if_pos ht, if_pos hl]
  rw [e]
  obtain ⟨l, hll⟩ : ∃ l, (s.ws i).left = l := ⟨_, rfl⟩
  obtain ⟨tk, htk⟩ : ∃ tk, (s.ws i).task = tk := ⟨_, rfl⟩
  rw [htk] at t0 ht
  rw [hll] at u0 HS hl h20 ⊢
  clear h H R hC e hr hrd hT hU hlb hw20 htt htr hok htk hll
  go_enter Tryz.func20, Tryz.ntmps20
  go_wp2_with fail
  refine hin.mono ?_
  rintro e w1 ⟨rfl, rfl⟩
  clear hin
  go_wp2
  go_ret
  exact ⟨_, F, rfl, OwnDeeds.nil _ _, HS.out⟩

set_option maxRecDepth 100000 in
theorem ref_near {w0 w : World} {F : Nat → Prop} {q : RPar} {p : PlanL} {room m : Nat} {s : GSt} (h : RGangIs w0 w q p room m s F) (H : GInv p room m s) {i : Nat} (hi : i < m) (pick : Nat) (hr : (i : Int) ∉ s.row) (ht : ¬ 0 ≤ (s.ws i).task) (hn : 0 ≤ (s.ws i).near ∨ (s.ws i).ring ≠ []) :
    Calls Tryz.prog 20 #[.pointer (some ⟨q.G, 0, none⟩), .int .i64 i, .int .i64 pick] w (RDone w0 w F q p room m (gStep p room m s i pick)) := by
  have R := RRel.start h
  obtain ⟨vf, vh, vr, hC, _, hL, hT, hU, _, hrd, _, m1, m6, _, _, mc, cm, _⟩ := R.cells
  have c7 := hC.cell 7 _ rfl
  have c2 := hC.cell 2 _ rfl
  have c1 := hC.cell 1 _ rfl
  have l0 := hL i hi
  obtain ⟨t0, f0⟩ : w.cell? ⟨q.T, i, none⟩ = some (.int .i64 (s.ws i).task) ∧ w.frozen? ⟨q.T, i, none⟩ = false := hT i hi
  have hin := ref_in vr s.row (i : Int) w hrd (by have := H.row_len; omega) false (by simpa using hr)
  have hold : w0.heap.size ≤ w.heap.size := by obtain ⟨_, _, _, _, _, _, _, _, _, _, _, _, _, _, _, _, _, _, _, _, _, ho⟩ := R.cells; exact ho.size
  have key : ∃ (x : Nat) (nr : Int) (rg : List Int), x < p.length ∧ gStep p room m s i pick = (⟨s.done, s.spill, s.row, upW s.ws i (gTake p ⟨nr, rg, (s.ws i).task, (s.ws i).left⟩ (x : Int))⟩, [⟨1, i, (x : Int), 0⟩]) ∧
      Calls Tryz.prog 79 #[.pointer (some ⟨q.HB i, 0, none⟩)] w fun e w' => e = .returned (.tuple #[.int .i64 x, .bool true]) ∧ ∃ F', RRel w0 w F w' q p room m ⟨s.done, s.spill, s.row, upW s.ws i ⟨nr, rg, (s.ws i).task, (s.ws i).left⟩⟩ F' := by
    have ge : ∀ x ∈ heldL m s, ∃ k : Nat, x = (k : Int) ∧ k < p.length := fun x hx => by obtain ⟨i, e, hi⟩ := H.mem hx; exact ⟨i, e, (readyL_mem.1 hi).1⟩
    by_cases hn0 : 0 ≤ (s.ws i).near
    · obtain ⟨x, hx, hxl⟩ := ge (s.ws i).near (held_own hi (by unfold ownW; rw [nearL_pos hn0]; simp))
      refine ⟨x, -1, (s.ws i).ring, hxl, ?_, ?_⟩
      · unfold gStep gFind; rw [if_neg hr, if_neg ht, if_pos hn0, ← hx]
      · rw [← hx]; exact R.take_near hi hn0
    · have hrg : (s.ws i).ring ≠ [] := hn.resolve_left hn0
      obtain ⟨x, hx, hxl⟩ := ge ((s.ws i).ring.getLastD 0) (held_own hi (show (s.ws i).ring.getLastD 0 ∈ ownW (s.ws i) from List.mem_append.2 (.inl (List.mem_append.2 (.inl (getLastD_mem _ hrg))))))
      refine ⟨x, (s.ws i).near, (s.ws i).ring.dropLast, hxl, ?_, ?_⟩
      · unfold gStep gFind; rw [if_neg hr, if_neg ht, if_neg hn0, if_pos hrg, ← hx]
      · rw [← hx]; exact R.take_ring hi (by omega) hrg
  obtain ⟨x, nr, rg, hxl, e, htake⟩ := key
  rw [e]
  obtain ⟨tk, htk⟩ : ∃ tk, (s.ws i).task = tk := ⟨_, rfl⟩
  rw [htk] at t0 ht htake ⊢
  have hneg : tk < 0 := by omega
  clear h H R hC e hr hrd hT hU hL hn ht
  go_enter Tryz.func20, Tryz.ntmps20
  go_wp2_with fail
  refine hin.mono ?_
  rintro e w1 ⟨rfl, rfl⟩
  clear hin
  go_wp2_with fail
  refine htake.mono ?_
  rintro e w2 ⟨rfl, F2, R2⟩
  have hgt := ref_gtake R2 hi x hxl
  simp only [upW_same, upW_up'] at hgt
  clear htake c7 c2 c1 l0 t0 f0 R2
  go_wp2_with fail
  refine hgt.mono ?_
  rintro e w3 ⟨rfl, R3, _⟩
  have hsz := R3.only.size
  have HR3 := Lib.hid R3
  clear hgt R3
  go_wp2
  go_ret
  exact ⟨_, F2, rfl, deed_alloc ⟨1, (i : Int), (x : Int), 0⟩ hsz, by
    have h9 := HR3.out.same ((Only.refl [] w3).alloc (.cells #[.int .i64 1, .int .i64 (i : Int), .int .i64 (x : Int), .int .i64 0] 88))
    simpa [gTake] using h9⟩

set_option maxRecDepth 100000 in
theorem ref_spill {w0 w : World} {F : Nat → Prop} {q : RPar} {p : PlanL} {room m : Nat} {s : GSt} (h : RGangIs w0 w q p room m s F) (H : GInv p room m s) {i : Nat} (hi : i < m) (pick : Nat) (hr : (i : Int) ∉ s.row) (ht : ¬ 0 ≤ (s.ws i).task) (hn : (s.ws i).near < 0) (hg : (s.ws i).ring = []) (hs : s.spill ≠ []) :
    Calls Tryz.prog 20 #[.pointer (some ⟨q.G, 0, none⟩), .int .i64 i, .int .i64 pick] w (RDone w0 w F q p room m (gStep p room m s i pick)) := by
  have R := RRel.start h
  obtain ⟨vf, vh, vr, hC, _, hL, hT, hU, _, hrd, _, m1, m6, _, _, mc, cm, _⟩ := R.cells
  have c7 := hC.cell 7 _ rfl
  have c2 := hC.cell 2 _ rfl
  have c1 := hC.cell 1 _ rfl
  have l0 := hL i hi
  obtain ⟨t0, f0⟩ : w.cell? ⟨q.T, i, none⟩ = some (.int .i64 (s.ws i).task) ∧ w.frozen? ⟨q.T, i, none⟩ = false := hT i hi
  have hin := ref_in vr s.row (i : Int) w hrd (by have := H.row_len; omega) false (by simpa using hr)
  have HU := Lib.hid hU
  obtain ⟨y, rest, hsp⟩ : ∃ y rest, s.spill = y :: rest := List.exists_cons_of_ne_nil hs
  obtain ⟨x, rfl, hxl⟩ : ∃ k : Nat, y = (k : Int) ∧ k < p.length := by
    obtain ⟨k, e, hk⟩ := H.mem (show y ∈ heldL m s by unfold heldL; rw [hsp]; simp)
    exact ⟨k, e, (readyL_mem.1 hk).1⟩
  have e : gStep p room m s i pick = (⟨s.done, rest, s.row, upW s.ws i (gTake p (s.ws i) (x : Int))⟩, [⟨3, i, (x : Int), 0⟩]) := by
    unfold gStep gFind; rw [if_neg hr, if_neg ht, if_neg (by omega), if_neg (by simp [hg]), hsp]
  rw [e]
  have htake := R.take_none hi hn hg
  have hget := R.spill_get
  rw [hsp] at hget
  obtain ⟨tk, htk⟩ : ∃ tk, (s.ws i).task = tk := ⟨_, rfl⟩
  rw [htk] at t0 ht
  have hneg : tk < 0 := by omega
  clear h H R hC e hr hrd hT hU hL hn ht hs hg htk
  go_enter Tryz.func20, Tryz.ntmps20
  go_wp2_with fail
  refine hin.mono ?_
  rintro e w1 ⟨rfl, rfl⟩
  clear hin
  go_wp2_with fail
  refine htake.mono ?_
  rintro e w1 ⟨rfl, rfl⟩
  clear htake
  go_wp2_with fail
  refine hget.mono ?_
  rintro e w2 ⟨v, F2, rfl, hI, R2⟩
  have hI : Ints w2 w.heap.size v [(x : Int)] := hI
  have R2 : RRel w0 w F w2 q p room m ⟨s.done, rest, s.row, s.ws⟩ F2 := R2
  obtain ⟨va, vc, rfl, hc⟩ := hI.opt
  obtain ⟨g, rfl, hx0⟩ := hc 0 (by simp)
  have hx0 : w2.cell? ⟨g, 0, none⟩ = some (.int .i64 (x : Int)) := hx0
  have hgt := ref_gtake R2 hi x hxl
  have hgw := (hI.own_lt g (by simp [own, Value.ownBlock])).1
  have htw := cell_lt t0
  have huw : q.U < w.heap.size := by
    obtain ⟨u0, _⟩ : w.cell? ⟨q.U, i, none⟩ = some (.int .i64 (s.ws i).left) ∧ w.frozen? ⟨q.U, i, none⟩ = false := HU.out i hi
    exact cell_lt u0
  have hgT : g ≠ q.T := by simp at htw; omega
  have hgU : g ≠ q.U := by omega
  clear hget c7 c2 c1 l0 t0 f0 hc hgw htw huw hI R2
  go_wp2_with fail
  refine hgt.mono ?_
  rintro e w3 ⟨rfl, R3, ho3⟩
  have hx3 := (ho3.cell (p := ⟨g, 0, none⟩) (cell_lt hx0) (by simp; exact ⟨hgT, hgU⟩)).trans hx0
  have hsz := R3.only.size
  have HR3 := Lib.hid R3
  clear hgt R3 hx0 ho3
  go_wp2
  go_ret
  exact ⟨_, F2, rfl, deed_alloc ⟨3, (i : Int), (x : Int), 0⟩ hsz, by
    have h9 := HR3.out.same ((Only.refl [] w3).alloc (.cells #[.int .i64 3, .int .i64 (i : Int), .int .i64 (x : Int), .int .i64 0] 88))
    simpa [gTake] using h9⟩

/-- A hand that finds nothing. -/
theorem sleep_cases {p : PlanL} {room m : Nat} {s : GSt} {i pick : Nat} (hr : (i : Int) ∉ s.row) (ht : ¬ 0 ≤ (s.ws i).task) (hn : (s.ws i).near < 0) (hg : (s.ws i).ring = []) (hs : s.spill = []) :
    (pick % m = i → gStep p room m s i pick = gSleep s i) ∧ (pick % m ≠ i → (s.ws (pick % m)).ring.take (halfOf (s.ws (pick % m)).ring) = [] → gStep p room m s i pick = gSleep s i) ∧
      ∀ x xs, pick % m ≠ i → (s.ws (pick % m)).ring.take (halfOf (s.ws (pick % m)).ring) = x :: xs → gStep p room m s i pick = gRob p room s i (pick % m) := by
  have e : gStep p room m s i pick = if pick % m = i then gSleep s i else gRob p room s i (pick % m) := by
    unfold gStep gFind; rw [if_neg hr, if_neg ht, if_neg (by omega), if_neg (by simp [hg]), hs]
  refine ⟨fun h => by rw [e, if_pos h], fun h h2 => ?_, fun x xs h h2 => by rw [e, if_neg h]⟩
  rw [e, if_neg h]
  unfold gRob
  rw [h2]

end Go.Proofs.YtocpmncedlenbaaGreatDoor

namespace Go.Proofs.YtocpmncedlenbaaGreatDoor
open Go.RowKit Go.Deep

theorem RRel.trans {w0 w1 w2 w : World} {F0 F1 F : Nat → Prop} {q : RPar} {p : PlanL} {room m : Nat} {s1 s : GSt} (h : RRel w0 w1 F0 w2 q p room m s1 F1) (k : RRel w0 w2 F1 w q p room m s F) : RRel w0 w1 F0 w q p room m s F :=
  h.step k.gang k.only k.kin
theorem upW_id (f : Nat → Wk) (o : Nat) : upW f o (f o) = f := by
  funext i; unfold upW; split
  · rename_i e; rw [e]
  · rfl
theorem half_nil {l : List Int} (h : l.take (halfOf l) = []) : l = [] := by
  cases l with
  | nil => rfl
  | cons a t =>
    have : halfOf (a :: t) = (halfOf (a :: t) - 1) + 1 := by unfold halfOf; simp; omega
    rw [this] at h
    simp at h
theorem half_len {l : List Int} {x : Int} {xs : List Int} {room : Nat} (h : l.take (halfOf l) = x :: xs) (hr : l.length ≤ room) : xs.length < room := by
  have := congrArg List.length h
  rw [List.length_take] at this
  unfold halfOf at this
  simp at this
  omega
theorem wk_rob (k : Wk) (h : k.ring = []) : (⟨k.near, k.ring.drop (halfOf k.ring), k.task, k.left⟩ : Wk) = k := by
  cases k
  simp at h
  subst h
  simp
theorem deed_at {w : World} {base B : Nat} (d : Dd) (hb : base ≤ w.heap.size) (hB : w.heap.size = B) : OwnDeeds (w.alloc (.cells #[.int .i64 d.what, .int .i64 d.hand, .int .i64 d.task, .int .i64 d.other] 88)) base (.slice (some ⟨B, 0, none⟩) 1 1) [d] := by
  subst hB; exact deed_alloc d hb
/-- What is put into an empty hand stays there. -/
theorem putAll_stays (room : Nat) (k : Wk) (l : List Int) (hn : k.near < 0) (hg : k.ring = []) (hl : ∀ x ∈ l, 0 ≤ x) (hr : l.length ≤ room) : ∀ n, n ≤ l.length →
    (putAll room k (l.take n)).2 = [] ∧ (n = 0 → (putAll room k (l.take n)).1 = k) ∧ (0 < n → 0 ≤ (putAll room k (l.take n)).1.near ∧ (putAll room k (l.take n)).1.ring.length + 1 = n) := by
  intro n
  induction n with
  | zero => exact fun _ => ⟨rfl, fun _ => rfl, fun h => by omega⟩
  | succ n ih =>
    intro hn1
    obtain ⟨h1, h2, h3⟩ := ih (by omega)
    rw [take_succ_nth l n (by omega), putAll_snoc]
    generalize putAll room k (l.take n) = K at *
    have hx : 0 ≤ nth l n := hl _ (by simp [nth, List.getElem?_eq_getElem (show n < l.length by omega)])
    show K.2 ++ handOut K.1.near room K.1.ring = [] ∧ _ ∧ (_ → 0 ≤ nth l n ∧ (handRest K.1.near room K.1.ring).length + 1 = n + 1)
    by_cases h0 : n = 0
    · have hK := h2 h0
      rw [hK, h1]
      unfold handOut handRest
      rw [if_pos hn, if_pos hn, hg]
      exact ⟨rfl, fun h => by omega, fun _ => ⟨hx, by simp; omega⟩⟩
    · obtain ⟨h4, h5⟩ := h3 (by omega)
      rw [h1]
      unfold handOut handRest
      have hA : ¬ K.1.near < 0 := by omega
      have hB : K.1.ring.length < room := by omega
      simp only [if_neg hA, if_pos hB]
      exact ⟨rfl, fun h => by omega, fun _ => ⟨hx, by simp; omega⟩⟩

set_option maxRecDepth 100000 in
set_option maxHeartbeats 4000000 in
theorem ref_self {w0 w : World} {F : Nat → Prop} {q : RPar} {p : PlanL} {room m : Nat} {s : GSt} (h : RGangIs w0 w q p room m s F) (H : GInv p room m s) {i : Nat} (hi : i < m) (pick : Nat) (hr : (i : Int) ∉ s.row) (ht : ¬ 0 ≤ (s.ws i).task) (hn : (s.ws i).near < 0) (hg : (s.ws i).ring = []) (hs : s.spill = []) (hh : pick % m = i) :
    Calls Tryz.prog 20 #[.pointer (some ⟨q.G, 0, none⟩), .int .i64 i, .int .i64 pick] w (RDone w0 w F q p room m (gStep p room m s i pick)) := by
  have e : gStep p room m s i pick = (⟨s.done, [], s.row ++ [(i : Int)], s.ws⟩, [⟨5, i, 0, 0⟩]) := by rw [(sleep_cases hr ht hn hg hs).1 hh, gSleep, hs]
  rw [e]
  have R := RRel.start h
  obtain ⟨vf, vh, vr, hC, _, hL, hT, hU, _, hrd, _, m1, m6, _, _, mc, cm, _⟩ := R.cells
  have c7 := hC.cell 7 _ rfl
  have c2 := hC.cell 2 _ rfl
  have c1 := hC.cell 1 _ rfl
  have l0 := hL i hi
  obtain ⟨t0, f0⟩ : w.cell? ⟨q.T, i, none⟩ = some (.int .i64 (s.ws i).task) ∧ w.frozen? ⟨q.T, i, none⟩ = false := hT i hi
  have hin := ref_in vr s.row (i : Int) w hrd (by have := H.row_len; omega) false (by simpa using hr)
  have htake := R.take_none hi hn hg
  have hget := R.spill_get
  rw [hs] at hget
  obtain ⟨tk, htk⟩ : ∃ tk, (s.ws i).task = tk := ⟨_, rfl⟩
  rw [htk] at t0 ht
  have hneg : tk < 0 := by omega
  have hrem : (pick : Int).tmod (m : Int) = ((pick % m : Nat) : Int) := by rw [Int.tmod_eq_emod_of_nonneg (by omega), Int.natCast_emod]
  have hom : pick % m < m := Nat.mod_lt pick (by omega)
  rw [hh] at hrem
  have HRL := Lib.hid H.row_len
  have heq : ((i : Int) == (i : Int)) = true := by simp
  clear h H R hC e hr hrd hT hU hL hn ht hs hg htk hom hh
  go_enter Tryz.func20, Tryz.ntmps20
  go_wp2_with fail
  refine hin.mono ?_
  rintro e w1 ⟨rfl, rfl⟩
  clear hin
  go_wp2_with fail
  refine htake.mono ?_
  rintro e w1 ⟨rfl, rfl⟩
  clear htake
  go_wp2_with fail
  refine hget.mono ?_
  rintro e w2 ⟨v, F2, rfl, hI, R2⟩
  have hI : Ints w2 w.heap.size v [] := hI
  have R2 : RRel w0 w F w2 q p room m ⟨s.done, [], s.row, s.ws⟩ F2 := R2
  obtain ⟨va, vc, rfl, _⟩ := hI.opt
  obtain ⟨_, _, _, hC2, _, hL2, _⟩ := R2.cells
  have c1 := hC2.cell 1 _ rfl
  have h0 := hI.own_lt
  clear hget c7 c2 l0 t0 f0 hI hC2 hL2 h0
  obtain ⟨vf3, vh3, vr3, hC3, hI3, hGr, _, hrow⟩ := R2.rowed
  have e7 := hC3.cell 7 _ rfl
  have g7 := hC3.free 7 _ rfl
  have hol : w0.heap.size ≤ w2.heap.size := by obtain ⟨_, _, _, _, _, _, _, _, _, _, _, _, _, _, _, _, _, _, _, _, _, ho⟩ := R2.cells; exact ho.size
  obtain ⟨rn, hrn⟩ : ∃ rn, s.row.length = rn := ⟨_, rfl⟩
  have hrl : rn ≤ 6 := by rw [← hrn]; have := HRL.out; omega
  have HRN := Lib.hid hrn
  have HI3 := Lib.hid hI3
  have HROW := Lib.hid hrow
  have HC3 := Lib.hid hC3
  have HR2 := Lib.hid R2
  have hsz := R2.only.size
  clear hC3 hI3 hrow hrn R2
  go_wp2_with (at_builtin; refine wpList_push rfl (.tmp 220) (.tmp 222) rfl w2 w0.heap.size _ s.row w2.heap.size (i : Int) rn HI3.out HRN.out (by omega) hol rfl rfl ((Only.refl [] w2).alloc _) (World.cell?_alloc_at _ _ _ _ rfl) ?_; intro g cap w4 hI4 hO4 hK4; have hC4 := HC3.out.only hO4 hGr; have e74 := hC4.cell 7 _ rfl; have g74 := hC4.free 7 _ rfl)
  obtain ⟨F5, hR5, _⟩ := HROW.out w4 _ _ _ hI4 hO4 (fun _ h => h) (kin_push hK4)
  have hsz4 := hO4.size
  go_ret
  exact ⟨_, F5, rfl, deed_at (w := w4.setCell ⟨q.G, 7, none⟩ (.slice (some ⟨g, 0, none⟩) (rn + 1) cap)) ⟨5, (i : Int), 0, 0⟩ (by simp [World.setCell]; omega) (by simp [World.setCell]), hR5.same ((Only.refl [] _).alloc _)⟩

set_option maxRecDepth 100000 in
set_option maxHeartbeats 4000000 in
theorem ref_none {w0 w : World} {F : Nat → Prop} {q : RPar} {p : PlanL} {room m : Nat} {s : GSt} (h : RGangIs w0 w q p room m s F) (H : GInv p room m s) {i : Nat} (hi : i < m) (pick : Nat) (hr : (i : Int) ∉ s.row) (ht : ¬ 0 ≤ (s.ws i).task) (hn : (s.ws i).near < 0) (hg : (s.ws i).ring = []) (hs : s.spill = []) (hh : pick % m ≠ i) (hrob : (s.ws (pick % m)).ring.take (halfOf (s.ws (pick % m)).ring) = []) :
    Calls Tryz.prog 20 #[.pointer (some ⟨q.G, 0, none⟩), .int .i64 i, .int .i64 pick] w (RDone w0 w F q p room m (gStep p room m s i pick)) := by
  have e : gStep p room m s i pick = (⟨s.done, [], s.row ++ [(i : Int)], s.ws⟩, [⟨5, i, 0, 0⟩]) := by rw [(sleep_cases hr ht hn hg hs).2.1 hh hrob, gSleep, hs]
  rw [e]
  have R := RRel.start h
  obtain ⟨vf, vh, vr, hC, _, hL, hT, hU, _, hrd, _, m1, m6, _, _, mc, cm, _⟩ := R.cells
  have c7 := hC.cell 7 _ rfl
  have c2 := hC.cell 2 _ rfl
  have c1 := hC.cell 1 _ rfl
  have l0 := hL i hi
  obtain ⟨t0, f0⟩ : w.cell? ⟨q.T, i, none⟩ = some (.int .i64 (s.ws i).task) ∧ w.frozen? ⟨q.T, i, none⟩ = false := hT i hi
  have hin := ref_in vr s.row (i : Int) w hrd (by have := H.row_len; omega) false (by simpa using hr)
  have htake := R.take_none hi hn hg
  have hget := R.spill_get
  rw [hs] at hget
  obtain ⟨tk, htk⟩ : ∃ tk, (s.ws i).task = tk := ⟨_, rfl⟩
  rw [htk] at t0 ht
  have hneg : tk < 0 := by omega
  have hrem : (pick : Int).tmod (m : Int) = ((pick % m : Nat) : Int) := by rw [Int.tmod_eq_emod_of_nonneg (by omega), Int.natCast_emod]
  have hom : pick % m < m := Nat.mod_lt pick (by omega)
  obtain ⟨o, ho⟩ : ∃ o, pick % m = o := ⟨_, rfl⟩
  rw [ho] at hrem hom hh hrob
  have HRL := Lib.hid H.row_len
  have heq : ((o : Int) == (i : Int)) = false := by simp; omega
  have HROB := Lib.hid hrob
  clear h H R hC e hr hrd hT hU hL hn ht hs hg htk hh ho hrob
  go_enter Tryz.func20, Tryz.ntmps20
  go_wp2_with fail
  refine hin.mono ?_
  rintro e w1 ⟨rfl, rfl⟩
  clear hin
  go_wp2_with fail
  refine htake.mono ?_
  rintro e w1 ⟨rfl, rfl⟩
  clear htake
  go_wp2_with fail
  refine hget.mono ?_
  rintro e w2 ⟨v, F2, rfl, hI, R2⟩
  have hI : Ints w2 w.heap.size v [] := hI
  have R2 : RRel w0 w F w2 q p room m ⟨s.done, [], s.row, s.ws⟩ F2 := R2
  obtain ⟨va, vc, rfl, _⟩ := hI.opt
  obtain ⟨_, _, _, hC2, _, hL2, _⟩ := R2.cells
  have c1 := hC2.cell 1 _ rfl
  have lo := hL2 o hom
  have hrob := R2.rob hom
  clear hget c7 c2 l0 t0 f0 hI hC2 hL2 R2
  go_wp2_with fail
  refine hrob.mono ?_
  rintro e w3 ⟨v3, F3, rfl, hI3, R3, _⟩
  have hI3 : Ints w3 w2.heap.size v3 ((s.ws o).ring.take (halfOf (s.ws o).ring)) := hI3
  rw [HROB.out] at hI3
  obtain ⟨vb, vd, rfl, _⟩ := hI3.opt
  have hring := half_nil HROB.out
  have R3 : RRel w0 w F w3 q p room m ⟨s.done, [], s.row, s.ws⟩ F3 := by
    have h : RRel w0 w F w3 q p room m ⟨s.done, [], s.row, upW s.ws o ⟨(s.ws o).near, (s.ws o).ring.drop (halfOf (s.ws o).ring), (s.ws o).task, (s.ws o).left⟩⟩ F3 := R3
    rw [wk_rob _ hring, upW_id] at h
    exact h
  clear hrob hI3 hring c1 lo
  obtain ⟨vf3, vh3, vr3, hC3, hI3, hGr, _, hrow⟩ := R3.rowed
  have e7 := hC3.cell 7 _ rfl
  have g7 := hC3.free 7 _ rfl
  have hol : w0.heap.size ≤ w3.heap.size := by obtain ⟨_, _, _, _, _, _, _, _, _, _, _, _, _, _, _, _, _, _, _, _, _, ho⟩ := R3.cells; exact ho.size
  obtain ⟨rn, hrn⟩ : ∃ rn, s.row.length = rn := ⟨_, rfl⟩
  have hrl : rn ≤ 6 := by rw [← hrn]; have := HRL.out; omega
  have HRN := Lib.hid hrn
  have HI3 := Lib.hid hI3
  have HROW := Lib.hid hrow
  have HC3 := Lib.hid hC3
  have HR3 := Lib.hid R3
  have hsz := R3.only.size
  clear hC3 hI3 hrow hrn R3
  go_wp2_with (at_builtin; refine wpList_push rfl (.tmp 220) (.tmp 222) rfl w3 w0.heap.size _ s.row w3.heap.size (i : Int) rn HI3.out HRN.out (by omega) hol rfl rfl ((Only.refl [] w3).alloc _) (World.cell?_alloc_at _ _ _ _ rfl) ?_; intro g cap w4 hI4 hO4 hK4; have hC4 := HC3.out.only hO4 hGr; have e74 := hC4.cell 7 _ rfl; have g74 := hC4.free 7 _ rfl)
  obtain ⟨F5, hR5, _⟩ := HROW.out w4 _ _ _ hI4 hO4 (fun _ h => h) (kin_push hK4)
  have hsz4 := hO4.size
  go_ret
  exact ⟨_, F5, rfl, deed_at (w := w4.setCell ⟨q.G, 7, none⟩ (.slice (some ⟨g, 0, none⟩) (rn + 1) cap)) ⟨5, (i : Int), 0, 0⟩ (by simp [World.setCell]; omega) (by simp [World.setCell]), hR5.same ((Only.refl [] _).alloc _)⟩

set_option maxRecDepth 100000 in
set_option maxHeartbeats 4000000 in
theorem ref_robs {w0 w : World} {F : Nat → Prop} {q : RPar} {p : PlanL} {room m : Nat} {s : GSt} (h : RGangIs w0 w q p room m s F) (H : GInv p room m s) {i : Nat} (hi : i < m) (pick : Nat) (hr : (i : Int) ∉ s.row) (ht : ¬ 0 ≤ (s.ws i).task) (hn : (s.ws i).near < 0) (hg : (s.ws i).ring = []) (hs : s.spill = []) {x : Int} {xs : List Int} (hh : pick % m ≠ i) (hrob : (s.ws (pick % m)).ring.take (halfOf (s.ws (pick % m)).ring) = x :: xs) :
    Calls Tryz.prog 20 #[.pointer (some ⟨q.G, 0, none⟩), .int .i64 i, .int .i64 pick] w (RDone w0 w F q p room m (gStep p room m s i pick)) := by
  have e : gStep p room m s i pick = gRob p room s i (pick % m) := (sleep_cases hr ht hn hg hs).2.2 x xs hh hrob
  have R := RRel.start h
  obtain ⟨vf, vh, vr, hC, _, hL, hT, hU, _, hrd, _, m1, m6, _, _, mc, cm, _⟩ := R.cells
  have c7 := hC.cell 7 _ rfl
  have c2 := hC.cell 2 _ rfl
  have c1 := hC.cell 1 _ rfl
  have l0 := hL i hi
  obtain ⟨t0, f0⟩ : w.cell? ⟨q.T, i, none⟩ = some (.int .i64 (s.ws i).task) ∧ w.frozen? ⟨q.T, i, none⟩ = false := hT i hi
  have hin := ref_in vr s.row (i : Int) w hrd (by have := H.row_len; omega) false (by simpa using hr)
  have htake := R.take_none hi hn hg
  have hget := R.spill_get
  rw [hs] at hget
  obtain ⟨tk, htk⟩ : ∃ tk, (s.ws i).task = tk := ⟨_, rfl⟩
  rw [htk] at t0 ht
  have hneg : tk < 0 := by omega
  have hrem : (pick : Int).tmod (m : Int) = ((pick % m : Nat) : Int) := by rw [Int.tmod_eq_emod_of_nonneg (by omega), Int.natCast_emod]
  have hom : pick % m < m := Nat.mod_lt pick (by omega)
  rw [e]
  obtain ⟨o, ho⟩ : ∃ o, pick % m = o := ⟨_, rfl⟩
  rw [ho] at hrem hom hh hrob ⊢
  have hfit := H.room o hom
  have hxs := half_len hrob hfit
  have ge : ∀ y ∈ x :: xs, ∃ k : Nat, y = (k : Int) ∧ k < p.length := fun y hy => by
    obtain ⟨k, e, hk⟩ := H.mem (held_own hom (show y ∈ ownW (s.ws o) by
      rw [← hrob] at hy
      unfold ownW
      simp [List.mem_of_mem_take hy]))
    exact ⟨k, e, (readyL_mem.1 hk).1⟩
  obtain ⟨t, rfl, htl⟩ := ge x (by simp)
  have hge : ∀ y ∈ xs, 0 ≤ y := fun y hy => by obtain ⟨k, e, _⟩ := ge y (by simp [hy]); omega
  have hst := putAll_stays room (s.ws i) xs hn hg hge (by omega)
  have hz : gRob p room s i o = (⟨s.done, [], s.row, upW (upW s.ws o ⟨(s.ws o).near, (s.ws o).ring.drop (halfOf (s.ws o).ring), (s.ws o).task, (s.ws o).left⟩) i ⟨(putAll room (s.ws i) xs).1.near, (putAll room (s.ws i) xs).1.ring, (t : Int), wkOf p t⟩⟩, [⟨2, i, (t : Int), o⟩]) := by
    have h2 := (hst xs.length (Nat.le_refl _)).1
    rw [List.take_of_length_le (Nat.le_refl _)] at h2
    unfold gRob
    rw [hrob]
    simp only [hs, h2, List.append_nil, gTake, Int.toNat_natCast]
  rw [hz]
  have heq : ((o : Int) == (i : Int)) = false := by simp; omega
  have HROB := Lib.hid hrob
  have HNE := Lib.hid hh
  obtain ⟨c, hc⟩ : ∃ c, xs.length = c := ⟨_, rfl⟩
  have HCC := Lib.hid hc
  have r16 : room ≤ 16 := R.cells.choose_spec.choose_spec.choose_spec.2.2.2.2.2.2.2.2.2.2.2.1
  have hc16 : c < 16 := by omega
  have htw := cell_lt t0
  have huw : q.U < w.heap.size := by
    obtain ⟨u0, _⟩ : w.cell? ⟨q.U, i, none⟩ = some (.int .i64 (s.ws i).left) ∧ w.frozen? ⟨q.U, i, none⟩ = false := hU i hi
    exact cell_lt u0
  have HTU := Lib.hid (And.intro htw huw)
  have HHI := Lib.hid hi
  clear h H R hC e hr hrd hT hU hL hn ht hs hg htk hh ho hrob hz hst hge ge hxs hfit hc htw huw r16
  go_enter Tryz.func20, Tryz.ntmps20
  go_wp2_with fail
  refine hin.mono ?_
  rintro e w1 ⟨rfl, rfl⟩
  clear hin
  go_wp2_with fail
  refine htake.mono ?_
  rintro e w1 ⟨rfl, rfl⟩
  clear htake
  go_wp2_with fail
  refine hget.mono ?_
  rintro e w2 ⟨v, F2, rfl, hI, R2⟩
  have hI : Ints w2 w.heap.size v [] := hI
  have R2 : RRel w0 w F w2 q p room m ⟨s.done, [], s.row, s.ws⟩ F2 := R2
  obtain ⟨va, vc, rfl, _⟩ := hI.opt
  obtain ⟨_, _, _, hC2, _, hL2, _⟩ := R2.cells
  have c1 := hC2.cell 1 _ rfl
  have lo := hL2 o hom
  have hrob := R2.rob hom
  clear hget c7 c2 l0 t0 f0 hI hC2 hL2
  have hsz2 := R2.only.size
  clear R2
  go_wp2_with fail
  refine hrob.mono ?_
  rintro e w3 ⟨v3, F3, rfl, hI3, R3, hap⟩
  have hI3 : Ints w3 w2.heap.size v3 ((s.ws o).ring.take (halfOf (s.ws o).ring)) := hI3
  have R3 : RRel w0 w F w3 q p room m ⟨s.done, [], s.row, upW s.ws o ⟨(s.ws o).near, (s.ws o).ring.drop (halfOf (s.ws o).ring), (s.ws o).task, (s.ws o).left⟩⟩ F3 := R3
  rw [HROB.out] at hI3
  obtain ⟨K, hK⟩ : ∃ K, upW s.ws o ⟨(s.ws o).near, (s.ws o).ring.drop (halfOf (s.ws o).ring), (s.ws o).task, (s.ws o).left⟩ = K := ⟨_, rfl⟩
  have hKi : K i = s.ws i := by rw [← hK, upW_other _ _ _ _ (Ne.symm HNE.out)]
  rw [hK] at R3
  have HKK := Lib.hid hK
  obtain ⟨vb, vd, rfl, hcell⟩ := hI3.opt
  have hlen : ((t : Int) :: xs).length = c + 1 := by simp [HCC.out]
  rw [hlen] at hI3 hcell hap ⊢
  have Q := RRel.start R3.gang
  have HQ := Lib.hid Q
  have HR3 := Lib.hid R3
  have HI3 := Lib.hid hI3
  have HAP := Lib.hid hap
  have HKI := Lib.hid hKi
  have hstart : RRel w0 w3 F3 w3 q p room m ⟨s.done, [], s.row, upW K i (putAll room (s.ws i) (xs.take 0)).1⟩ F3 := by
    rw [List.take_zero, putAll_nil, ← hKi, upW_id]; exact Q
  have HST := Lib.hid hstart
  clear hrob hI3 c1 lo hcell hap hKi hlen Q R3 hstart hK
  go_wp2_with fail
  go_loopw [22] (fun vk wr => ∃ (k j : Nat) (Fj : Nat → Prop), Hid (k = j + 1) ∧ k ≤ c + 1 ∧ j ≤ c ∧ vk = .int .i64 (k : Int) ∧ RRel w0 w3 F3 wr q p room m ⟨s.done, [], s.row, upW K i (putAll room (s.ws i) (xs.take j)).1⟩ Fj) (fun vk _ => c + 1 - (intOf vk).toNat)
  case atStart => exact ⟨1, 0, F3, rfl, by omega, Nat.zero_le _, rfl, HST.out⟩
  case round =>
    obtain ⟨wo, rfl⟩ : ∃ wo : World, wo = wr := ⟨_, rfl⟩
    obtain ⟨k, j, Fj, hkj, hk1, hj, rfl, Q⟩ := hrel
    have hIj := Ints.onlyF HI3.out Q.only HAP.out
    obtain ⟨va', vc', hv', hcell⟩ := hIj.opt
    injection hv' with ea eb ec
    subst ea
    clear eb ec
    by_cases hjc : k < c + 1
    · have hjc' : j < c := by have := hkj.out; omega
      obtain ⟨g, rfl, hgc⟩ := hcell k (by simp [HCC.out]; omega)
      obtain ⟨y, hy⟩ : ∃ y, nth xs j = y := ⟨_, rfl⟩
      have hyy : nth ((t : Int) :: xs) k = y := by rw [← hy, hkj.out]; simp [nth]
      rw [hyy] at hgc
      obtain ⟨_, _, _, hCq, _, hLq, _⟩ := Q.cells
      have c1 := hCq.cell 1 _ rfl
      have l0 := hLq i hi
      have HPUT := Lib.hid (fun (W : World) (h : Only [] wo W) => (Q.same h).put hi y)
      simp only [upW_same, upW_up'] at HPUT
      have hnx : Hid ((putAll room (s.ws i) (xs.take (j + 1))).1 = wkPut room (putAll room (s.ws i) (xs.take j)).1 y) := by
        show _ = _
        rw [take_succ_nth xs j (by rw [HCC.out]; exact hjc'), putAll_snoc, hy]; rfl
      clear hIj hcell Q hCq hLq hy hyy
      go_wp2_with fail
      go_region_law (first | (go_simp; go_at_call 77; refine (HPUT.out _ (by first | exact Only.refl _ _ | exact (Only.refl _ _).drew | exact (Only.refl _ _).drewN _)).mono ?_; rintro e w7 ⟨v7, F7, rfl, _, hS7, _, _, _⟩))
      all_goals
        have hS8 : Hid (RRel w0 w3 F3 w7 q p room m ⟨s.done, [], s.row, upW K i (putAll room (s.ws i) (xs.take (j + 1))).1⟩ F7) := by
          show RRel _ _ _ _ _ _ _ _ _ _
          rw [hnx.out]; exact hS7
        clear hS7 HPUT
        go_wp2_with fail
        go_roundw
        case rel => exact ⟨_, _, _, _, _, _, _, _, _, _, _, _, _, _, _, _, _, _, _, ⟨k + 1, j + 1, F7, by show _ = _; rw [hkj.out], by omega, by omega, by go_num, hS8.out⟩, rfl⟩
        case measure => (simp [intOf]; try omega)
    · obtain rfl : j = c := by have := hkj.out; omega
      have htk : xs.take j = xs := List.take_of_length_le (by rw [HCC.out]; exact Nat.le_refl _)
      rw [htk] at Q
      obtain ⟨g, rfl, hx0⟩ := hcell 0 (by simp)
      have hx0 : wo.cell? ⟨g, 0, none⟩ = some (.int .i64 (t : Int)) := hx0
      have hgw := (HI3.out.own_lt g (by simp [own, Value.ownBlock])).1
      have hgT : g ≠ q.T := by have : q.T < w.heap.size := HTU.out.1; omega
      have hgU : g ≠ q.U := by have := HTU.out.2; omega
      have hgt := ref_gtake Q HHI.out t htl
      simp only [upW_same, upW_up'] at hgt
      clear hIj hcell htk Q
      go_wp2_with fail
      refine hgt.mono ?_
      rintro e w5 ⟨rfl, R5, ho5⟩
      have hx5 := (ho5.cell (p := ⟨g, 0, none⟩) (cell_lt hx0) (by simp; exact ⟨hgT, hgU⟩)).trans hx0
      have HFIN := Lib.hid (HR3.out.trans R5)
      have hsz5 := HFIN.out.only.size
      clear hgt R5 hx0 ho5
      go_wp2
      go_ret
      have hfin := HFIN.out.same ((Only.refl [] w5).alloc (.cells #[.int .i64 2, .int .i64 (i : Int), .int .i64 (t : Int), .int .i64 (o : Int)] 88))
      rw [← HKK.out] at hfin
      exact ⟨_, _, rfl, deed_alloc ⟨2, (i : Int), (t : Int), (o : Int)⟩ hsz5, hfin⟩

end Go.Proofs.YtocpmncedlenbaaGreatDoor
