/-
  Contracts of package log: redo, Sync, Fail, All, Ready, Safe; a task at which it stops.
-/
import Derived.Test.YtloojhnhialenaaGreatDoorLog
import Derived.Test.YtloojhnhialenaaGreatDoorJoin2
namespace Go.Proofs.YtloojhnhialenaaGreatDoor
open Go.RowKit Go.Deep

/-- Tasks that can be done one behind the other. -/
def OrdOk (p : PlanL) (l : List Nat) : Prop := ∀ k (h : k < l.length), l[k] < p.length ∧ readyB p (doneB (l.take k)) l[k] = true

theorem OrdOk.take {p : PlanL} {l : List Nat} (h : OrdOk p l) (n : Nat) : OrdOk p (l.take n) := fun k hk => by
  rw [List.length_take] at hk
  have := h k (by omega)
  rw [List.getElem_take, List.take_take, show min k n = k by omega]
  exact this
theorem OrdOk.nil (p : PlanL) : OrdOk p [] := fun k h => by simp at h
theorem OrdOk.push {p : PlanL} {l : List Nat} {i : Nat} (h : OrdOk p l) (hi : i < p.length) (hr : readyB p (doneB l) i = true) : OrdOk p (l ++ [i]) := fun k hk => by
  by_cases e : k < l.length
  · rw [List.getElem_append_left e, List.take_append_of_le_length (by omega)]
    exact h k e
  · obtain rfl : k = l.length := by simp at hk; omega
    rw [List.getElem_append_right (Nat.le_refl _), List.take_append_of_le_length (Nat.le_refl _), List.take_length]
    simpa using ⟨hi, hr⟩
theorem OrdOk.nodup {p : PlanL} {l : List Nat} (h : OrdOk p l) : l.Nodup := by
  rw [List.nodup_iff_pairwise_ne, List.pairwise_iff_getElem]
  intro i j hi hj hij e
  have := (h j hj).2
  rw [ready_lack] at this
  have hm : l[j] ∈ l.take j := by
    rw [← e]
    exact List.mem_take_iff_getElem.2 ⟨i, by omega, rfl⟩
  simp [doneB, hm] at this
theorem OrdOk.lt {p : PlanL} {l : List Nat} (h : OrdOk p l) : ∀ i ∈ l, i < p.length := fun i hi => by
  obtain ⟨k, hk, rfl⟩ := List.getElem_of_mem hi
  exact (h k hk).1
theorem nodup_le : ∀ (n : Nat) (l : List Nat), l.Nodup → (∀ i ∈ l, i < n) → l.length ≤ n := by
  intro n
  induction n with
  | zero =>
    intro l _ h
    cases l with
    | nil => simp
    | cons a l => have := h a (by simp); omega
  | succ n ih =>
    intro l hn h
    by_cases hm : n ∈ l
    · have h1 := ih (l.erase n) (hn.erase n) (fun i hi => by
        have h2 := (hn.mem_erase_iff).1 hi
        have h3 := h i h2.2
        omega)
      rw [List.length_erase_of_mem hm] at h1
      have := List.length_pos_of_mem hm
      omega
    · have := ih l hn (fun i hi => by
        have h3 := h i hi
        have : i ≠ n := fun e => hm (by rw [← e]; exact hi)
        omega)
      omega
theorem OrdOk.len {p : PlanL} {l : List Nat} (h : OrdOk p l) : l.length ≤ p.length := nodup_le _ _ h.nodup h.lt

set_option maxRecDepth 100000 in
set_option maxHeartbeats 4000000 in
theorem Log.redo (G : Nat) (pv jp av b sf lf st v : Value) (FP : Nat → Prop) (p : PlanL) (l : List Nat) (w : World) (hC : Cells w G [pv, jp, av, b, sf, lf, st]) (hP : PlanAt w FP pv p) (hok : PlanOk p)
    (hv : Reads w v (natL l)) (hl : OrdOk p l) :
    Calls Tryz.prog 50 #[.pointer (some ⟨G, 0, none⟩), v] w fun e w' => e = .returned .nilIface ∧ ∃ J S FJ, Cells w' G [pv, .pointer (some ⟨J, 0, none⟩), v, b, sf, lf, st] ∧ JoinIs w' S FJ J p (doneB l) ∧
      (∀ x ∈ S, w.heap.size ≤ x ∧ x < w'.heap.size) ∧ (∀ x, FJ x → w.heap.size ≤ x ∧ x < w'.heap.size) ∧ Only [G] w w' := by
  have c0 := hC.cell 0 _ rfl
  have HC := Lib.hid hC
  have HV := Lib.hid hv
  have HL := Lib.hid hl
  have hj := Join.new pv p w hP.plan hok
  obtain ⟨n, hn⟩ : ∃ n, l.length = n := ⟨_, rfl⟩
  have HN := Lib.hid hn
  have h30 : n ≤ 30 := by rw [← hn]; have := hl.len; have := hok.len; omega
  obtain ⟨va, vc, rfl, hcell⟩ := hv.opt
  rw [natL_len, hn] at hcell HV ⊢
  have HCELL := Lib.hid hcell
  clear hC hP hv hl hn hcell
  go_enter Tryz.func50, Tryz.ntmps50
  go_wp2_with fail
  refine hj.mono ?_
  rintro e w1 ⟨J, S, FJ, rfl, hJ, hS, hF, ho1⟩
  clear hj
  have HS := Lib.hid (And.intro hS hF)
  have HO1 := Lib.hid ho1
  rw [← doneB_nil] at hJ
  clear hS hF ho1 c0
  go_wp2_with fail
  go_loopw [8, 9, 10, 24] (fun _ _ _ vi wr => ∃ k : Nat, k ≤ n ∧ vi = .int .i64 k ∧ JoinIs wr S FJ J p (doneB (l.take k)) ∧ Only S w1 wr) (fun _ _ _ vi _ => n - (intOf vi).toNat)
  case atStart => exact ⟨0, Nat.zero_le _, rfl, hJ, Only.refl _ _⟩
  case round =>
    obtain ⟨wo, rfl⟩ : ∃ wo : World, wo = wr := ⟨_, rfl⟩
    clear hJ
    obtain ⟨k, hk, rfl, hJ, ho⟩ := hrel
    have hoo : Only [] w wo := HO1.out.trans ho (fun x hx hlt => by have := (HS.out.1 x hx).1; omega)
    by_cases hlt : k < n
    · have hkl : k < l.length := by rw [HN.out]; exact hlt
      obtain ⟨b9, off, rfl, c9⟩ := HCELL.out k hlt
      rw [natL_nth l k hkl] at c9
      have c9' := (hoo.cell (p := ⟨b9, off + k, none⟩) (cell_lt c9) (by simp)).trans c9
      obtain ⟨x, hx⟩ : ∃ x, l[k] = x := ⟨_, rfl⟩
      have hr := HL.out k hkl
      rw [hx] at hr c9'
      have hd := Join.done S FJ J p _ x wo hJ hr.1 hr.2
      have hts : Hid (l.take (k + 1) = l.take k ++ [x]) := by show _ = _; rw [List.take_succ_eq_append_getElem hkl, hx]
      have HO := Lib.hid ho
      clear hx hr c9 ho hoo hJ
      go_wp2_with fail
      refine hd.mono ?_
      rintro e w3 ⟨v3, rfl, hI3, hJ3, ho3⟩
      obtain ⟨ga, gc, rfl, _⟩ := hI3.opt
      clear hd hI3
      go_wp2_with fail
      go_roundw
      case rel => exact ⟨k + 1, by omega, by go_num, by rw [hts.out, doneB_push]; exact hJ3, HO.out.trans ho3 (fun x hx _ => hx)⟩
      case measure => (simp [intOf]; try omega)
    · obtain rfl : k = n := by omega
      rw [List.take_of_length_le (by rw [HN.out]; exact Nat.le_refl _)] at hJ
      have hCo := HC.out.only hoo (by simp)
      have c1 := hCo.cell 1 _ rfl
      have c2 := hCo.cell 2 _ rfl
      have f1 := hCo.free 1 _ rfl
      have f2 := hCo.free 2 _ rfl
      have HCo := Lib.hid hCo
      have HOO := Lib.hid hoo
      have HJ := Lib.hid hJ
      have hszo := ho.size
      have hsz1 := HO1.out.size
      clear ho hoo hJ hCo
      go_wp2
      go_ret
      refine ⟨rfl, J, S, FJ, ?_, ?_, ?_, ?_, ?_⟩
      · exact (HCo.out.set 1 _).set 2 _
      · have hset : Only [G] wo ((wo.setCell ⟨G, 1, none⟩ (.pointer (some ⟨J, 0, none⟩))).setCell ⟨G, 2, none⟩ (.slice va k vc)) := ((Only.refl [G] wo).setCell (by simp) _).setCell (by simp) _
        exact HJ.out.only hset (fun x hx hx2 => by have hg := HC.out.lt; simp at hx2; have := (HS.out.1 x hx).1; omega) (fun x hx hx2 => by have hg := HC.out.lt; simp at hx2; have := (HS.out.2 x hx).1; omega)
      · intro x hx
        have := HS.out.1 x hx
        simp [World.setCell]
        omega
      · intro x hx
        have := HS.out.2 x hx
        simp [World.setCell]
        omega
      · exact (((HOO.out.mono (by simp)).setCell (by simp) _).setCell (by simp) _)

theorem LogIs.parts {w : World} {S : List Nat} {F : Nat → Prop} {G : Nat} {p : PlanL} {s : LSt} (h : LogIs w S F G p s) : ∃ pv av J, Cells w G [pv, .pointer (some ⟨J, 0, none⟩), av, .string ⟨s.bytes.toArray⟩, .int .i64 s.safe, .int .i64 s.left, .bool s.stop] ∧ Ints w 0 av (natL s.all) := by
  obtain ⟨JS, FJ, FP, J, pv, av, h, _, _⟩ := h
  exact ⟨pv, av, J, h.cells, h.all⟩

/-- The same log, but for its four plain cells. -/
theorem LogIs.turn {w w' : World} {S : List Nat} {F : Nat → Prop} {G : Nat} {p : PlanL} {s : LSt} (h : LogIs w S F G p s) (ho : Only [G] w w') (s' : LSt) (ha : s'.all = s.all)
    (hc : ∀ pv jp av, Cells w G [pv, jp, av, .string ⟨s.bytes.toArray⟩, .int .i64 s.safe, .int .i64 s.left, .bool s.stop] → Cells w' G [pv, jp, av, .string ⟨s'.bytes.toArray⟩, .int .i64 s'.safe, .int .i64 s'.left, .bool s'.stop]) : LogIs w' S F G p s' := by
  obtain ⟨JS, FJ, FP, J, pv, av, h, rfl, rfl⟩ := h
  refine ⟨JS, FJ, FP, J, pv, av, ⟨hc _ _ _ h.cells, ?_, ?_, ?_, h.n1, h.n2, h.n3, h.n4, h.n5, h.n6, ?_, ?_⟩, rfl, rfl⟩
  · exact h.plan.only ho (fun x hF hx => by simp at hx; subst hx; exact h.n3 hF)
  · rw [ha]
    exact h.join.only ho (fun x hF hx => by simp at hx; subst hx; exact h.n1 hF) (fun x hF hx => by simp at hx; subst hx; exact h.n4 hF)
  · rw [ha]
    exact h.all.only ho (fun g hg hx => by simp at hx; subst hx; exact h.n2 (own_of hg))
  · exact fun x hx => Nat.lt_of_lt_of_le (h.b1 x hx) ho.size
  · exact fun x hx => Nat.lt_of_lt_of_le (h.b2 x hx) ho.size

theorem LogIs.low {w : World} {S : List Nat} {F : Nat → Prop} {G : Nat} {p : PlanL} {s : LSt} (h : LogIs w S F G p s) : G ∈ S ∧ (∀ x ∈ S, x < w.heap.size) ∧ ∀ x, F x → x < w.heap.size := by
  obtain ⟨JS, FJ, FP, J, pv, av, h, rfl, rfl⟩ := h
  refine ⟨by simp, fun x hx => ?_, h.b1⟩
  rcases List.mem_cons.1 hx with rfl | hx
  · exact h.cells.lt
  · rcases List.mem_append.1 hx with hx | hx
    · exact (h.all.own_lt x hx).2
    · exact h.b2 x hx

theorem cells_uniq3 {w : World} {G : Nat} {a b c a' b' c' : Value} {r r' : List Value} (h : Cells w G (a :: b :: c :: r)) (k : Cells w G (a' :: b' :: c' :: r')) : a' = a ∧ b' = b ∧ c' = c := by
  have h0 := (h.cell 0 _ rfl).symm.trans (k.cell 0 _ rfl)
  have h1 := (h.cell 1 _ rfl).symm.trans (k.cell 1 _ rfl)
  have h2 := (h.cell 2 _ rfl).symm.trans (k.cell 2 _ rfl)
  simp at h0 h1 h2
  exact ⟨h0.symm, h1.symm, h2.symm⟩

set_option maxRecDepth 100000 in
theorem Log.fail (S : List Nat) (F : Nat → Prop) (G : Nat) (p : PlanL) (s : LSt) (n : Int) (w : World) (h : LogIs w S F G p s) :
    Calls Tryz.prog 36 #[.pointer (some ⟨G, 0, none⟩), .int .i64 n] w fun e w' => e = .returned (.tuple #[]) ∧ LogIs w' S F G p ⟨s.all, s.bytes, s.safe, max (-1) n, s.stop⟩ ∧ Only [G] w w' := by
  have HL := Lib.hid h
  obtain ⟨pv, av, J, hC, hA⟩ := h.parts
  have c5 := hC.cell 5 _ rfl
  have f5 := hC.free 5 _ rfl
  clear h hC hA
  go_enter Tryz.func36, Tryz.ntmps36
  go_wp2
  go_end0
  have ho : Only [G] w (w.setCell ⟨G, 5, none⟩ (.int .i64 (max (-1) n))) := (Only.refl [G] w).setCell (by simp) _
  exact ⟨rfl, HL.out.turn ho _ rfl (fun pv jp av hC => hC.set 5 _), ho⟩

set_option maxRecDepth 100000 in
theorem Log.sync_stop (S : List Nat) (F : Nat → Prop) (G : Nat) (p : PlanL) (s : LSt) (w : World) (h : LogIs w S F G p s) (hs : s.stop = true) :
    Calls Tryz.prog 12 #[.pointer (some ⟨G, 0, none⟩)] w fun e w' => e = .returned (.iface 86 (.int .i64 6)) ∧ w = w' := by
  obtain ⟨pv, av, J, hC, hA⟩ := h.parts
  have c6 := hC.cell 6 _ rfl
  rw [hs] at c6
  clear h hC hA
  go_enter Tryz.func12, Tryz.ntmps12
  go_wp2_with fail
  go_ret
  exact ⟨rfl, rfl⟩

/-- Behind a step that goes on: what is there is safe. -/
def LSt.synced (s : LSt) : LSt := ⟨s.all, s.bytes, s.bytes.length, max (-1) (s.left - 1), false⟩
/-- Behind a step at which it stops. -/
def LSt.halted (s : LSt) (more : List UInt8) : LSt := ⟨s.all, s.bytes ++ more, s.safe, -1, true⟩

set_option maxRecDepth 100000 in
theorem Log.sync (S : List Nat) (F : Nat → Prop) (G : Nat) (p : PlanL) (s : LSt) (w : World) (h : LogIs w S F G p s) (hs : s.stop = false) (hl : s.left ≠ 0) (hl0 : -1 ≤ s.left) (hl1 : s.left ≤ 9223372036854775807) :
    Calls Tryz.prog 12 #[.pointer (some ⟨G, 0, none⟩)] w fun e w' => e = .returned .nilIface ∧ LogIs w' S F G p s.synced ∧ Only [G] w w' := by
  have HL := Lib.hid h
  obtain ⟨pv, av, J, hC, hA⟩ := h.parts
  have c6 := hC.cell 6 _ rfl
  rw [hs] at c6
  have hst := Log.step_any G _ _ _ _ _ _ _ w hC hl0 hl1
  have hlz : decide (s.left = 0) = false := by simpa using hl
  rw [hlz] at hst
  have HC := Lib.hid hC
  clear h hC hA
  go_enter Tryz.func12, Tryz.ntmps12
  go_wp2_with fail
  refine hst.mono ?_
  rintro e w1 ⟨rfl, hC1, ho1⟩
  have c3 := hC1.cell 3 _ rfl
  have c4 := hC1.cell 4 _ rfl
  have f4 := hC1.free 4 _ rfl
  have hz : (⟨s.bytes.toArray⟩ : ByteArray).size = s.bytes.length := ba_size _
  have HC1 := Lib.hid hC1
  have HO1 := Lib.hid ho1
  clear hst hC1 ho1
  go_wp2
  go_ret
  have ho : Only [G] w (w1.setCell ⟨G, 4, none⟩ (.int .i64 (s.bytes.length : Int))) := HO1.out.setCell (by simp) _
  refine ⟨rfl, HL.out.turn ho _ rfl (fun pv' jp' av' hC' => ?_), ho⟩
  obtain ⟨rfl, rfl, rfl⟩ := cells_uniq3 HC.out hC'
  exact HC1.out.set 4 _

set_option maxRecDepth 100000 in
theorem Log.sync_halt (S : List Nat) (F : Nat → Prop) (G : Nat) (p : PlanL) (s : LSt) (w : World) (h : LogIs w S F G p s) (hs : s.stop = false) (hl : s.left = 0) :
    Calls Tryz.prog 12 #[.pointer (some ⟨G, 0, none⟩)] w fun e w' => e = .returned (.iface 86 (.int .i64 6)) ∧ LogIs w' S F G p (s.halted []) ∧ Only [G] w w' := by
  have HL := Lib.hid h
  obtain ⟨pv, av, J, hC, hA⟩ := h.parts
  have c6 := hC.cell 6 _ rfl
  rw [hs] at c6
  have hst := Log.step_any G _ _ _ _ _ _ _ w hC (by omega) (by omega)
  have hlz : decide (s.left = 0) = true := by simpa using hl
  rw [hlz] at hst
  have HC := Lib.hid hC
  clear h hC hA
  go_enter Tryz.func12, Tryz.ntmps12
  go_wp2_with fail
  refine hst.mono ?_
  rintro e w1 ⟨rfl, hC1, ho1⟩
  have HC1 := Lib.hid hC1
  have HO1 := Lib.hid ho1
  clear hst hC1 ho1
  go_wp2
  go_ret
  refine ⟨rfl, HL.out.turn HO1.out _ rfl (fun pv' jp' av' hC' => ?_), HO1.out⟩
  obtain ⟨rfl, rfl, rfl⟩ := cells_uniq3 HC.out hC'
  have := HC1.out
  rw [hl] at this
  show Cells w1 G [_, _, _, .string ⟨(s.bytes ++ []).toArray⟩, _, _, _]
  rw [List.append_nil]
  exact this

theorem Log.all (S : List Nat) (F : Nat → Prop) (G : Nat) (p : PlanL) (s : LSt) (w : World) (h : LogIs w S F G p s) (ha : s.all.length ≤ 1000) :
    Calls Tryz.prog 15 #[.pointer (some ⟨G, 0, none⟩)] w fun e w' => ∃ v, e = .returned v ∧ Ints w' w.heap.size v (natL s.all) ∧ Only [] w w' := by
  obtain ⟨pv, av, J, hC, hA⟩ := h.parts
  have c2 := hC.cell 2 _ rfl
  have hcl := clone_ints av (natL s.all) w hA.reads (by rw [natL_len]; omega)
  obtain ⟨a, cap, rfl, _⟩ := hA.opt
  clear h hC hA
  go_enter Tryz.func15, Tryz.ntmps15
  go_wp2_with fail
  refine hcl.mono ?_
  rintro e w1 ⟨v, rfl, hI, ho⟩
  obtain ⟨ga, gc, rfl, _⟩ := hI.opt
  clear hcl
  go_wp2
  go_ret
  exact ⟨_, rfl, hI, ho⟩

theorem Log.ready (S : List Nat) (F : Nat → Prop) (G : Nat) (p : PlanL) (s : LSt) (w : World) (h : LogIs w S F G p s) :
    Calls Tryz.prog 10 #[.pointer (some ⟨G, 0, none⟩)] w fun e w' => ∃ v, e = .returned v ∧ Ints w' w.heap.size v (natL (readyL p (doneB s.all))) ∧ Only [] w w' := by
  obtain ⟨JS, FJ, FP, J, pv, av, h, _, _⟩ := h
  have c1 := h.cells.cell 1 _ rfl
  have hr := Join.ready JS FJ J p _ w h.join
  clear h
  go_enter Tryz.func10, Tryz.ntmps10
  go_wp2_with fail
  refine hr.mono ?_
  rintro e w1 ⟨v, rfl, hI, ho⟩
  obtain ⟨ga, gc, rfl, _⟩ := hI.opt
  clear hr
  go_wp2
  go_ret
  exact ⟨_, rfl, hI, ho⟩

set_option maxRecDepth 100000 in
set_option maxHeartbeats 4000000 in
theorem Log.done_halt (S : List Nat) (F : Nat → Prop) (G : Nat) (p : PlanL) (s : LSt) (i : Nat) (w : World) (h : LogIs w S F G p s) (hs : s.stop = false) (hi : i < p.length) (hr : readyB p (doneB s.all) i = true) (hl : s.left = 0) (ho : OrdOk p s.all) (hbl : s.bytes.length ≤ 1000) :
    Calls Tryz.prog 11 #[.pointer (some ⟨G, 0, none⟩), .int .i64 i] w fun e w' => e = .returned (.iface 86 (.int .i64 6)) ∧ ∃ S' F', LogIs w' S' F' G p (s.halted ((lineOf i).take ((lineOf i).length / 2))) ∧ Kin w S S' ∧ (∀ x, F' x → F x ∨ w.heap.size ≤ x) ∧ Only S w w' := by
  obtain ⟨JS, FJ, FP, J, pv, av, h, rfl, rfl⟩ := h
  have HR := Lib.hid h
  have HOrd := Lib.hid ho
  have c6 := h.cells.cell 6 _ rfl
  have c1 := h.cells.cell 1 _ rfl
  have h30 : i < 30 := by have := h.join.ok.len; omega
  have hd := Join.done JS FJ J p _ i w h.join hi hr
  rw [hs] at c6
  clear h hi hr ho
  go_enter Tryz.func11, Tryz.ntmps11
  go_wp2_with fail
  refine hd.mono ?_
  rintro e w1 ⟨vn, rfl, hN, hJ1, ho1⟩
  obtain ⟨oa, oc, rfl, _⟩ := hN.opt
  clear hd hN
  generalize (natL (newL p (doneB s.all) i)).length = nn
  have hC1 := HR.out.cells.only ho1 HR.out.n1
  have hP1 := HR.out.plan.only ho1 (fun x hF hx => HR.out.n6 x hx hF)
  have hA1 := HR.out.all.only ho1 (fun g hg hx => (HR.out.n5 g (own_of hg)).1 hx)
  have HJ := Lib.hid (And.intro ho1 (And.intro hP1 hA1))
  clear hJ1 ho1 hP1 hA1 c1 c6
  go_wp2_with fail
  refine (Tryz.strconv_Itoa_small i (by omega) _).mono ?_
  rintro e w2 ⟨rfl, rfl⟩
  obtain ⟨sb, hsb, hz⟩ : ∃ sb : ByteArray, (⟨(Lib.decDigits i).toArray⟩ : ByteArray) = sb ∧ sb.size ≤ 2 := ⟨_, rfl, by rw [ba_size]; exact digits_two (by omega)⟩
  have HSB := Lib.hid hsb
  rw [hsb]
  clear hsb
  have hz1 : ¬ 9223372036854775806 < sb.size := by omega
  clear hz
  go_wp2_with fail
  refine (Log.step_any G _ _ _ _ _ _ _ w2 hC1 (by omega) (by omega)).mono ?_
  rintro e w3 ⟨rfl, hC3, ho3⟩
  have hlz : decide (s.left = 0) = true := by simpa using hl
  rw [hlz] at hC3 ⊢
  obtain ⟨sl, hsl, hz2⟩ : ∃ sl : ByteArray, sb ++ (⟨#[10]⟩ : ByteArray) = sl ∧ sl.size ≤ 3 := ⟨_, rfl, by rw [ByteArray.size_append, ← HSB.out, ba_size]; have := digits_two (i := i) (by omega); show _ + 1 ≤ 3; omega⟩
  obtain ⟨b0, hb0, hz3⟩ : ∃ b0 : ByteArray, (⟨s.bytes.toArray⟩ : ByteArray) = b0 ∧ b0.size ≤ 1000 := ⟨_, rfl, by rw [ba_size]; exact hbl⟩
  have HSL := Lib.hid hsl
  have HB0 := Lib.hid hb0
  rw [hsl]
  rw [hb0] at hC3
  have c3 := hC3.cell 3 _ rfl
  have f3 := hC3.free 3 _ rfl
  have HC3 := Lib.hid hC3
  have HO3 := Lib.hid ho3
  have hsz : sl.size = 2 ∨ sl.size = 3 := by
    rw [← HSL.out, ByteArray.size_append, ← HSB.out, ba_size]
    by_cases h10 : i < 10
    · left; rw [Lib.decDigits_one h10]; rfl
    · right; rw [Lib.decDigits_two h10 (by omega)]; rfl
  have hq : ((sl.size : Int)).tdiv 2 = 1 := by rcases hsz with h | h <;> rw [h] <;> rfl
  have hq3 : IntKind.i64.wrap 1 = 1 := rfl
  have hz5 : ¬ 9223372036854775807 < b0.size + (sl.extract 0 1).size := by rw [ByteArray.size_extract]; omega
  have hle : 1 ≤ sl.size := by omega
  have hle0 : 0 < sl.size := by omega
  have hle1 : (1 : Int) ≤ (sl.size : Int) := by omega
  have hle2 : ¬ sl.size < 1 := by omega
  have hle3 : decide (1 ≤ sl.size) = true := by simp; omega
  clear hsl hb0 hz1 hC3 ho3 hC1 hz2 hsz
  go_wp2_with fail
  go_still_tail 12, (by kernel_rfl)
  go_simp
  obtain ⟨sx, hsx⟩ : ∃ sx, sl.extract 0 1 = sx := ⟨_, rfl⟩
  rw [hsx] at hz5 ⊢
  have HSX := Lib.hid hsx
  clear hsx hq hq3 hle hle0 hle1 hle2 hle3
  have c2 := HC3.out.cell 2 _ rfl
  repeat still_step
  refine wpStill_nil ?_
  obtain ⟨W, hW⟩ : ∃ W, (w3.setCell ⟨G, 3, none⟩ (.string (b0 ++ sx))).drew = W := ⟨_, rfl⟩
  have hoW : Only [G] w3 W := by rw [← hW]; exact ((Only.refl [G] w3).setCell (by simp) _).drew
  have hCW : Cells W G [pv, .pointer (some ⟨J, 0, none⟩), av, .string (b0 ++ sx), .int .i64 s.safe, .int .i64 (max (-1) (s.left - 1)), .bool true] := by rw [← hW]; exact (HC3.out.set 3 _).drewN 1
  have ho2 : Only [G] w2 W := HO3.out.trans hoW (by simp)
  have hPW : PlanAt W FP pv p := HJ.out.2.1.only ho2 (fun x hF hx => by simp at hx; subst hx; exact HR.out.n3 hF)
  have hAW : Ints W 0 av (natL s.all) := HJ.out.2.2.only ho2 (fun g hg hx => by simp at hx; subst hx; exact HR.out.n2 (own_of hg))
  have hrd := Log.redo G _ _ _ _ _ _ _ av FP p s.all W hCW hPW HR.out.join.ok hAW.reads HOrd.out
  obtain ⟨aa, ac, rfl, _⟩ := hAW.opt
  have HW := Lib.hid hW
  have HX := Lib.hid (And.intro ho2 (And.intro hPW hAW))
  clear hW hoW hCW ho2 hPW hAW
  generalize (natL s.all).length = na at *
  go_wp2_with fail
  rw [HW.out]
  refine hrd.mono ?_
  rintro e w5 ⟨rfl, J5, S5, FJ5, hC5, hJ5, hS5, hF5, ho5⟩
  have H5 := Lib.hid (And.intro hC5 (And.intro hJ5 (And.intro hS5 (And.intro hF5 ho5))))
  clear hrd hC5 hJ5 hS5 hF5 ho5 c2 c3 f3
  go_wp2
  go_ret
  refine ⟨rfl, ?_⟩
  obtain ⟨hC5, hJ5, hS5, hF5, ho5⟩ := H5.out
  obtain ⟨ho2, hPW, hAW⟩ := HX.out
  have R := HR.out
  have hsW : w2.heap.size ≤ W.heap.size := ho2.size
  have hs2 := HJ.out.1.size
  have hs5 := ho5.size
  have hGl := R.cells.lt
  have haw := hAW.own_lt
  have hal : ∀ x ∈ own (Value.slice aa na ac), x < w.heap.size := fun x hx => (R.all.own_lt x hx).2
  refine ⟨_, _, ⟨S5, FJ5, FP, J5, _, .slice aa na ac, ⟨?_, hPW.only ho5 (fun x hF hx => by simp at hx; subst hx; exact R.n3 hF), hJ5, hAW.only ho5 (fun g hg hx => by simp at hx; subst hx; exact R.n2 (own_of hg)), ?_, R.n2, R.n3, ?_, ?_, ?_, ?_, ?_⟩, rfl, rfl⟩, ?_, ?_, ?_⟩
  · have e : (⟨(s.halted ((lineOf i).take ((lineOf i).length / 2))).bytes.toArray⟩ : ByteArray) = b0 ++ sx := by
      rw [← HB0.out, ← HSX.out, ← HSL.out, ← HSB.out]
      show (⟨(s.bytes ++ (lineOf i).take ((lineOf i).length / 2)).toArray⟩ : ByteArray) = _
      rw [← ba_app]
      congr 1
      have he : (lineOf i).length / 2 = 1 := by
        unfold lineOf
        by_cases h10 : i < 10
        · rw [Lib.decDigits_one h10]; simp
        · rw [Lib.decDigits_two h10 (by omega)]; simp
      rw [he]
      have e2 : (⟨(Lib.decDigits i).toArray⟩ : ByteArray) ++ (⟨#[10]⟩ : ByteArray) = ⟨(lineOf i).toArray⟩ := ba_app (Lib.decDigits i) [10]
      rw [e2]
      apply ByteArray.ext
      rw [ByteArray.data_extract]
      simp
    rw [e]
    have := hC5
    rw [hl] at this
    exact this
  · intro hx; have := hS5 _ hx; omega
  · intro hx; have := hF5 _ hx; omega
  · intro x hx
    have h1 := hal x hx
    exact ⟨fun h => by have := hS5 x h; omega, (R.n5 x hx).2.1, fun h => by have := hF5 x h; omega⟩
  · intro x hx hF; have := hS5 x hx; have := R.b1 x (.inl hF); omega
  · intro x hx
    rcases hx with hx | hx
    · have := R.b1 x (.inl hx); omega
    · have := hF5 x hx; omega
  · intro x hx; have := hS5 x hx; omega
  · intro x hx
    rcases List.mem_cons.1 hx with rfl | hx
    · exact .inl (by simp)
    · rcases List.mem_append.1 hx with hx | hx
      · exact .inl (List.mem_cons_of_mem _ (List.mem_append_left _ (by rw [own_any aa (natL s.all).length na ac ac]; exact hx)))
      · right; have := hS5 x hx; omega
  · intro x hx
    rcases hx with hx | hx
    · exact .inl (.inl hx)
    · right; have := hF5 x hx; omega
  · exact ((HJ.out.1.mono (by intro x hx _; exact List.mem_cons_of_mem _ (List.mem_append_right _ hx))).trans ho2 (by simp)).trans ho5 (by simp)

end Go.Proofs.YtloojhnhialenaaGreatDoor
