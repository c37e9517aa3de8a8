/-
  Contract of a step of the document's gang: the end of a task.
-/
import Derived.Test.YtocpmncedlenbaaGreatDoorP38GangPlays
namespace Go.Proofs.YtocpmncedlenbaaGreatDoor
open Go.RowKit Go.Deep

theorem sorted_ext : ∀ {a b : List Nat}, a.Pairwise (· < ·) → b.Pairwise (· < ·) → (∀ x, x ∈ a ↔ x ∈ b) → a = b
  | [], [], _, _, _ => rfl
  | [], y :: b, _, _, h => absurd ((h y).2 (by simp)) (by simp)
  | x :: a, [], _, _, h => absurd ((h x).1 (by simp)) (by simp)
  | x :: a, y :: b, ha, hb, h => by
    obtain ⟨ha1, ha2⟩ := List.pairwise_cons.1 ha
    obtain ⟨hb1, hb2⟩ := List.pairwise_cons.1 hb
    have e : x = y := by
      rcases List.mem_cons.1 ((h x).1 (by simp)) with h1 | h1
      · exact h1
      · rcases List.mem_cons.1 ((h y).2 (by simp)) with h2 | h2
        · exact h2.symm
        · have := hb1 x h1; have := ha1 y h2; omega
    subst e
    congr 1
    refine sorted_ext ha2 hb2 fun z => ⟨fun hz => ?_, fun hz => ?_⟩
    · rcases List.mem_cons.1 ((h z).1 (by simp [hz])) with h1 | h1
      · subst h1; have := ha1 z hz; omega
      · exact h1
    · rcases List.mem_cons.1 ((h z).2 (by simp [hz])) with h1 | h1
      · subst h1; have := hb1 z hz; omega
      · exact h1

/-- Those that are ready now, and were not. -/
theorem ready_new {p : PlanL} (hok : PlanOk p) {D : Nat → Bool} (hc : Closed p D) {t : Nat} (ht : t ∈ readyL p D) : (readyL p (upB D t)).filter (fun k => !decide (k ∈ readyL p D)) = newL p D t := by
  obtain ⟨t1, t2, t3⟩ := readyL_mem.1 ht
  refine sorted_ext ((readyL_pair p _).filter _) (newL_pair p D t) fun k => ?_
  rw [List.mem_filter, newL_mem]
  have hl := lack_up hok D t t2 k
  constructor
  · rintro ⟨h1, h2⟩
    obtain ⟨k1, k2, k3⟩ := readyL_mem.1 h1
    have hn : k ∉ readyL p D := by simpa using h2
    have hDk : D k = false := by
      unfold upB at k2
      split at k2
      · cases k2
      · exact k2
    refine ⟨k1, ?_, k3⟩
    by_cases e : (t : Int) ∈ ndOf p k
    · exact e
    · rw [if_neg e] at hl
      exact absurd (readyL_mem.2 ⟨k1, hDk, by omega⟩) hn
  · rintro ⟨k1, k2, k3⟩
    obtain ⟨h1, h2⟩ := new_not hok hc t2 (newL_mem.2 ⟨k1, k2, k3⟩)
    have hkt : k ≠ t := fun e => by subst e; exact h2 t3
    refine ⟨readyL_mem.2 ⟨k1, by unfold upB; rw [if_neg hkt]; exact h1, k3⟩, ?_⟩
    have : k ∉ readyL p D := fun h => h2 (readyL_mem.1 h).2.2
    simpa using this
theorem readyL_len (p : PlanL) (D : Nat → Bool) : (readyL p D).length ≤ p.length := by
  have := List.length_filter_le (readyB p D) (List.range p.length)
  rw [List.length_range] at this
  exact this
theorem natL_filter (l m : List Nat) : (natL l).filter (fun x => !decide (x ∈ natL m)) = natL (l.filter (fun k => !decide (k ∈ m))) := by
  unfold natL
  rw [List.filter_map]
  congr 1
  refine List.filter_congr fun k _ => ?_
  simp
  exact ⟨fun ⟨a, ha, e⟩ => by obtain rfl : a = k := by omega
                              exact ha, fun h => ⟨k, h, rfl⟩⟩
theorem filter_step (N : List Int) (P : Int → Bool) (k : Nat) (h : k < N.length) : (N.take (k + 1)).filter P = (N.take k).filter P ++ (if P (nth N k) then [nth N k] else []) := by
  rw [take_succ_nth N k h, List.filter_append]
  congr 1
  cases hp : P (nth N k) <;> simp [hp]

set_option maxRecDepth 100000 in
set_option maxHeartbeats 4000000 in
theorem ref_finish {w0 w : World} {F : Nat → Prop} {q : RPar} {p : PlanL} {room m : Nat} {s : GSt} (h : RGangIs w0 w q p room m s F) (H : GInv p room m s) (hok : PlanOk p) {i : Nat} (hi : i < m) (pick : Nat) (hr : (i : Int) ∉ s.row) (ht : 0 ≤ (s.ws i).task) (hl : ¬ 1 < (s.ws i).left) :
    Calls Tryz.prog 20 #[.pointer (some ⟨q.G, 0, none⟩), .int .i64 i, .int .i64 pick] w (RDone w0 w F q p room m (gStep p room m s i pick)) := by
  have R := RRel.start h
  obtain ⟨vf, vh, vr, hC, hP, hL, hT, hU, hB, hrd, _, m1, m6, r1, r16, mc, cm, fT, fU, fA, fG, _⟩ := R.cells
  obtain ⟨t, htt, htr⟩ := H.task hi ht
  obtain ⟨t1, t2, t3⟩ := readyL_mem.1 htr
  have hl1 : (s.ws i).left = 1 := by have := (H.left i hi ht).1; omega
  have hlt := h.lt
  have HL := Lib.hid hlt
  have HG0 := Lib.hid h
  have hne := R.ne
  have hn30 := hok.len
  obtain ⟨t0, f0⟩ : w.cell? ⟨q.T, i, none⟩ = some (.int .i64 (s.ws i).task) ∧ w.frozen? ⟨q.T, i, none⟩ = false := hT i hi
  obtain ⟨u0, g0⟩ : w.cell? ⟨q.U, i, none⟩ = some (.int .i64 (s.ws i).left) ∧ w.frozen? ⟨q.U, i, none⟩ = false := hU i hi
  rw [hl1] at u0
  have c7 := hC.cell 7 _ rfl
  have c2 := hC.cell 2 _ rfl
  have c3 := hC.cell 3 _ rfl
  have hin := ref_in vr s.row (i : Int) w hrd (by have := H.row_len; omega) false (by simpa using hr)
  obtain ⟨L, hLL⟩ : ∃ L, natL (newL p s.done t) = L := ⟨_, rfl⟩
  obtain ⟨r, hr0⟩ : ∃ r, L.length = r := ⟨_, rfl⟩
  obtain ⟨k0, hk0⟩ : ∃ k0 : Wk, k0 = ⟨(s.ws i).near, (s.ws i).ring, -1, 0⟩ := ⟨_, rfl⟩
  have e : gStep p room m s i pick = (⟨upB s.done t, s.spill ++ (putAll room k0 L).2, s.row.drop r, upW s.ws i (putAll room k0 L).1⟩, (⟨4, (i : Int), (t : Int), 0⟩ : Dd) :: (s.row.take r).map fun k => (⟨6, k, 0, 0⟩ : Dd)) := by
    unfold gStep gWork
    rw [if_neg hr, if_pos ht, if_neg hl, htt, hl1, Int.toNat_natCast, hLL, ← hr0, hk0]
    rfl
  have hge : ∀ x ∈ L, 0 ≤ x := by rw [← hLL]; exact natL_ge
  have hln : r ≤ 30 := by
    rw [← hr0, ← hLL, natL_len]
    have := List.length_filter_le (fun k => lackN p (upB s.done t) k == 0) (afterOf p t)
    have := afterOf_len p (t : Int)
    unfold newL
    omega
  have hfil : (natL (readyL p (upB s.done t))).filter (fun x => !decide (x ∈ natL (readyL p s.done))) = L := by rw [natL_filter, ready_new hok H.clos htr, hLL]
  obtain ⟨W1, hW1⟩ : ∃ W1, w.setCell ⟨q.U, i, none⟩ (.int .i64 0) = W1 := ⟨_, rfl⟩
  have R1 := R.left (i := i) 0
  rw [hW1] at R1
  obtain ⟨vf1, vh1, vr1, hC1, _, _, hT1, hU1, _⟩ := R1.cells
  have c31 := hC1.cell 3 _ rfl
  have c21 := hC1.cell 2 _ rfl
  obtain ⟨t01, _⟩ : W1.cell? ⟨q.T, i, none⟩ = some (.int .i64 ((upW s.ws i ⟨(s.ws i).near, (s.ws i).ring, (s.ws i).task, 0⟩) i).task) ∧ W1.frozen? ⟨q.T, i, none⟩ = false := hT1 i hi
  obtain ⟨u01, _⟩ : W1.cell? ⟨q.U, i, none⟩ = some (.int .i64 ((upW s.ws i ⟨(s.ws i).near, (s.ws i).ring, (s.ws i).task, 0⟩) i).left) ∧ W1.frozen? ⟨q.U, i, none⟩ = false := hU1 i hi
  simp only [upW_same] at t01 u01
  obtain ⟨W2, hW2⟩ : ∃ W2, W1.alloc (.cells #[.int .i64 4, .int .i64 (i : Int), .int .i64 (t : Int), .int .i64 0] 88) = W2 := ⟨_, rfl⟩
  have ho2 : Only [] W1 W2 := by rw [← hW2]; exact (Only.refl [] W1).alloc _
  have R2 := R1.same ho2
  have hsz1 : W1.heap.size = w.heap.size := by rw [← hW1]; simp [World.setCell]
  have hsz2 : W2.heap.size = w.heap.size + 1 := by rw [← hW2]; simp [hsz1]
  have hD2 : OwnDeeds W2 w.heap.size (.slice (some ⟨w.heap.size, 0, none⟩) 1 1) [⟨4, (i : Int), (t : Int), 0⟩] := by
    have h := deed_alloc (w := W1) (base := w.heap.size) ⟨4, (i : Int), (t : Int), 0⟩ (by omega)
    rw [hW2, hsz1] at h
    exact h
  obtain ⟨vf2, vh2, vr2, hC2, hP2, _, _, _, hB2, _⟩ := R2.cells
  have c02 := hC2.cell 0 _ rfl
  have c82 := hC2.cell 8 _ rfl
  have HRD := Lib.hid (fun (W : World) (ho : Only [] W2 W) => (ref_Ready q.pv p q.A p.length s.done W (hP2.same ho) hok.needsOk (hB2.only ho (by simp)) rfl).mono fun e w' (hx : ∃ v', e = .returned v' ∧ Ints w' W.heap.size v' (natL (readyL p s.done)) ∧ Only [] W w') => (show ∃ v', e = .returned v' ∧ Ints w' W2.heap.size v' (natL (readyL p s.done)) ∧ Only [] W2 w' from by obtain ⟨v', h1, h2, h3⟩ := hx; exact ⟨v', h1, h2.mono ho.size, ho.trans h3 (by simp)⟩))
  have HR2 := Lib.hid R2
  have HD2 := Lib.hid hD2
  have HFIL := Lib.hid hfil
  have HGE := Lib.hid hge
  have HR0 := Lib.hid hr0
  have HK0 := Lib.hid hk0
  have HH := Lib.hid H
  have HOK := Lib.hid hok
  have HI := Lib.hid hi
  have HFAT := Lib.hid (And.intro fA fT)
  rw [e]
  rw [htt] at t0 t01 ht
  obtain ⟨n, hn⟩ : ∃ n, p.length = n := ⟨_, rfl⟩
  have HN := Lib.hid hn
  rw [hn] at c82 HRD t1 hn30
  have hneU := hne.1
  have hneT := hne.2.2.2.1
  have HNE := Lib.hid hne
  clear h R hC hP hL hT hU hB hrd e R1 hC1 hT1 hU1 R2 hC2 hP2 hB2 hlt hok H hr hl hl1 htr htt t2 t3 hge hr0 hk0 hfil hLL ho2 hD2 hn fT fU fA fG hne
  go_enter Tryz.func20, Tryz.ntmps20
  go_wp2_with fail
  refine hin.mono ?_
  rintro e w1 ⟨rfl, rfl⟩
  clear hin
  go_wp2_with fail
  clear hW1 hW2
  obtain ⟨NW, hNW⟩ : ∃ NW, natL (readyL p s.done) = NW := ⟨_, rfl⟩
  obtain ⟨NN, hNN⟩ : ∃ NN, natL (readyL p (upB s.done t)) = NN := ⟨_, rfl⟩
  rw [hNW] at HRD HFIL
  rw [hNN] at HFIL
  have hNl : NN.length ≤ 30 := by
    rw [← hNN, natL_len]
    have := readyL_len p (upB s.done t)
    have := HN.out
    omega
  have hWl : NW.length ≤ 30 := by
    rw [← hNW, natL_len]
    have := readyL_len p s.done
    have := HN.out
    omega
  have HNN := Lib.hid hNN
  clear hNW hNN c2 c3 c7 c21 c31 t0 f0 u0 g0 t01 u01
  go_still_tail 8, (by kernel_rfl)
  go_wp2_with fail
  refine (HRD.out _ ((Only.refl [] W2).drew)).mono ?_
  rintro e w3 ⟨v3, rfl, hIw, ho3⟩
  obtain ⟨wa, wc, rfl, _⟩ := hIw.opt
  have R3 := HR2.out.same ho3
  obtain ⟨_, _, _, hC3, _, _, _, _, hB3, _⟩ := R3.cells
  have c83 := hC3.cell 8 _ rfl
  rw [HN.out] at c83
  obtain ⟨b03, b13⟩ := hB3 t (by rw [HN.out]; exact t1)
  obtain ⟨W4, hW4⟩ : ∃ W4, w3.setCell ⟨q.A, t, none⟩ (.bool true) = W4 := ⟨_, rfl⟩
  have R4 := R3.done t
  rw [hW4] at R4
  obtain ⟨_, _, _, hC4, _, _, hT4, _⟩ := R4.cells
  have c24 := hC4.cell 2 _ rfl
  obtain ⟨t04, f04⟩ := hT4 i HI.out
  obtain ⟨W5, hW5⟩ : ∃ W5, W4.setCell ⟨q.T, i, none⟩ (.int .i64 (-1)) = W5 := ⟨_, rfl⟩
  have R5 := R4.task (i := i) (-1)
  rw [hW5] at R5
  simp only [upW_same, upW_up'] at R5
  rw [← HK0.out] at R5
  obtain ⟨_, _, _, hC5, hP5, _, _, _, hB5, _⟩ := R5.cells
  have c05 := hC5.cell 0 _ rfl
  have c85 := hC5.cell 8 _ rfl
  rw [HN.out] at c85
  have HRD5 := Lib.hid (fun (W : World) (ho : Only [] W5 W) => (ref_Ready q.pv p q.A p.length (upB s.done t) W (hP5.same ho) HOK.out.needsOk (hB5.only ho (by simp)) rfl).mono fun e w' (hx : ∃ v', e = .returned v' ∧ Ints w' W.heap.size v' (natL (readyL p (upB s.done t))) ∧ Only [] W w') => (show ∃ v', e = .returned v' ∧ Ints w' W5.heap.size v' (natL (readyL p (upB s.done t))) ∧ Only [] W5 w' from by obtain ⟨v', h1, h2, h3⟩ := hx; exact ⟨v', h1, h2.mono ho.size, ho.trans h3 (by simp)⟩))
  rw [HNN.out, HN.out] at HRD5
  have hs35 : w3.heap.size = W5.heap.size := by rw [← hW5, ← hW4]; simp [World.setCell]
  have hsz3 := ho3.size
  have hwF : ∀ y ∈ own (.slice wa NW.length wc), ¬ F y := fun y hy hF => by have := (hIw.own_lt y hy).1; have := (HL.out y hF).2; omega
  have hF2 := (RRel.start R3.gang)
  have HIw := Lib.hid hIw
  have HO3 := Lib.hid ho3
  have HR5 := Lib.hid R5
  have HWF := Lib.hid hwF
  have HS35 := Lib.hid hs35
  have HO35 := Lib.hid (show Only [q.A, q.T] w3 W5 by rw [← hW5, ← hW4]; exact ((Only.refl [q.A, q.T] w3).setCell (by simp) _).setCell (by simp) _)
  clear R3 hC3 hB3 R4 hC4 hT4 R5 hC5 hP5 hB5 hIw ho3 hwF hF2 hs35 HRD
  go_wp2_with fail
  clear hW4 hW5
  go_still_tail 8, (by kernel_rfl)
  go_wp2_with fail
  refine (HRD5.out _ ((Only.refl [] W5).drew)).mono ?_
  rintro e w6 ⟨v6, rfl, hIn, ho6⟩
  obtain ⟨na, nc, rfl, hcell⟩ := hIn.opt
  have R6 := HR5.out.same ho6
  obtain ⟨ln, hln9⟩ : ∃ ln, NN.length = ln := ⟨_, rfl⟩
  rw [hln9] at hNl hIn hcell ⊢
  have HLN := Lib.hid hln9
  have hnF : ∀ y ∈ own (.slice na ln nc), ¬ F y := fun y hy hF => by
    have h1 := (hIn.own_lt y hy).1
    have h2 := (HL.out y hF).2
    have h3 := HS35.out
    have h4 := HO3.out.size
    omega
  have hw6 : Ints w6 W2.heap.size (.slice wa NW.length wc) NW := (HIw.out.only HO35.out (fun g hg hx => by
    have h1 := (HIw.out.own_lt g (own_of hg)).1
    have h2 : F q.A ∧ F q.T := HFAT.out
    have h3 := (HL.out _ h2.1).2
    have h4 := (HL.out _ h2.2).2
    simp at hx
    omega)).only ho6 (by simp)
  have Q0 := RRel.start R6.gang
  have HO6 := Lib.hid ho6
  have HSZ6 := Lib.hid (show W2.heap.size ≤ w6.heap.size ∧ w.heap.size < w6.heap.size by have := ho6.size; have h3 := HS35.out; have h4 := HO3.out.size; omega)
  have hw0s : Hid (w0.heap.size ≤ w.heap.size) := by
    obtain ⟨_, _, _, _, _, _, _, _, _, _, _, _, _, _, _, _, _, _, _, _, _, ho⟩ := (RRel.start HG0.out).cells; exact ho.size
  have HQ := Lib.hid Q0
  have HR6 := Lib.hid R6
  have HIN := Lib.hid hIn
  have HW6 := Lib.hid hw6
  have HNF := Lib.hid hnF
  clear hIn hcell R6 hln9 hnF hw6 Q0 HRD5 c05 c85 b03 b13 c24 t04 f04 c83 c02 c82
  go_wp2_with fail
  obtain ⟨FL, hFL⟩ : ∃ FL : Nat → List Int, ∀ k, (NN.take k).filter (fun x => !decide (x ∈ NW)) = FL k := ⟨_, fun _ => rfl⟩
  have HF0 : Hid (FL 0 = []) := by show _ = _; rw [← hFL, List.take_zero]; rfl
  have HFS : Hid (∀ k, k < ln → FL (k + 1) = FL k ++ (if (!decide (nth NN k ∈ NW)) = true then [nth NN k] else [])) := fun k hk => by
    rw [← hFL, ← hFL, filter_step NN _ k (by rw [HLN.out]; exact hk)]
  have HFE : Hid (FL ln = L) := by
    show _ = _
    rw [← hFL, List.take_of_length_le (by rw [HLN.out]; exact Nat.le_refl _)]; exact HFIL.out
  have HFM : Hid (∀ k, ∀ x ∈ FL k, 0 ≤ x) := fun k x hx => by
    rw [← hFL] at hx
    exact HGE.out x (by rw [← HFIL.out]; exact List.mem_filter.2 ⟨List.mem_of_mem_take (List.mem_filter.1 hx).1, (List.mem_filter.1 hx).2⟩)
  have HFN : Hid (∀ k, (FL k).length ≤ k) := fun k => by
    rw [← hFL]
    have := List.length_filter_le (fun x => !decide (x ∈ NW)) (NN.take k)
    rw [List.length_take] at this
    omega
  have HFLL : Hid (∀ k, (FL k).length ≤ r) := fun k => by
    rw [← HR0.out, ← HFIL.out, ← hFL]
    have h := List.take_append_drop k NN
    have : ((NN.take k).filter (fun x => !decide (x ∈ NW)) ++ (NN.drop k).filter (fun x => !decide (x ∈ NW))).length = (NN.filter (fun x => !decide (x ∈ NW))).length := by rw [← List.filter_append, h]
    rw [List.length_append] at this
    omega
  clear hFL
  go_loopw [12, 13, 14] (fun vm vk _ wr => ∃ (k mm : Nat) (Fj : Nat → Prop), k ≤ ln ∧ mm ≤ k ∧ Hid ((FL k).length = mm) ∧ vk = .int .i64 k ∧ vm = .int .i64 mm ∧ RRel w0 w6 F wr q p room m ⟨upB s.done t, s.spill ++ (putAll room k0 (FL k)).2, s.row, upW s.ws i (putAll room k0 (FL k)).1⟩ Fj) (fun _ vk _ _ => ln - (intOf vk).toNat)
  case atStart => exact ⟨0, 0, F, Nat.zero_le _, Nat.zero_le _, by show _ = _; rw [HF0.out]; rfl, rfl, rfl, by rw [HF0.out, putAll_nil, List.append_nil]; exact HQ.out⟩
  case round =>
    obtain ⟨wo, rfl⟩ : ∃ wo : World, wo = wr := ⟨_, rfl⟩
    obtain ⟨k, mm, Fj, hk, hmk, HMM, rfl, rfl, Q⟩ := hrel
    by_cases hkn : k < ln
    · have hNj := Ints.onlyF HIN.out Q.only HNF.out
      have hWj := Ints.onlyF HW6.out Q.only HWF.out
      obtain ⟨na', nc', hv', hcell⟩ := hNj.opt
      injection hv' with ea eb ec
      subst ea
      clear eb ec
      obtain ⟨g, rfl, hgc⟩ := hcell k (by rw [HLN.out]; exact hkn)
      have hstep := HFS.out k hkn
      obtain ⟨x, hx⟩ : ∃ x, nth NN k = x := ⟨_, rfl⟩
      rw [hx] at hgc hstep
      by_cases hxw : x ∈ NW
      · have hold := ref_in _ NW x wo hWj.reads (by omega) true (by simpa using hxw)
        have hnx : Hid (FL (k + 1) = FL k) := by show _ = _; rw [hstep, if_neg (by simp [hxw]), List.append_nil]
        have HQJ := Lib.hid Q
        clear hNj hWj hcell hstep hx hxw Q
        go_wp2_with fail
        refine hold.mono ?_
        rintro e wz ⟨rfl, rfl⟩
        clear hold
        go_wp2_with fail
        go_roundw
        case rel => exact ⟨k + 1, mm, Fj, by omega, by omega, by show _ = _; rw [hnx.out]; exact HMM.out, by go_num, rfl, by rw [hnx.out]; exact HQJ.out⟩
        case measure => (simp [intOf]; try omega)
      · have hold := ref_in _ NW x wo hWj.reads (by omega) false (by simpa using hxw)
        have hnx : FL (k + 1) = FL k ++ [x] := by rw [hstep, if_pos (by simp [hxw])]
        have hput : putAll room k0 (FL (k + 1)) = (wkPut room (putAll room k0 (FL k)).1 x, (putAll room k0 (FL k)).2 ++ handOut (putAll room k0 (FL k)).1.near room (putAll room k0 (FL k)).1.ring) := by
          rw [hnx, putAll_snoc]; rfl
        have HNX : Hid ((FL (k + 1)).length = mm + 1) := by show _ = _; rw [hnx, List.length_append, HMM.out]; rfl
        have hOl := putAll_len room k0 (FL k) (HFM.out k)
        have hfl := HFLL.out k
        have hown := HH.out.own_len HI.out
        have hk0l : (ownW k0).length ≤ (ownW (s.ws i)).length := by
          rw [HK0.out]; unfold ownW; simp [nearL]
        have h30 := HOK.out.len
        obtain ⟨K, hK⟩ : ∃ K, (putAll room k0 (FL k)).1 = K := ⟨_, rfl⟩
        obtain ⟨O, hO⟩ : ∃ O, (putAll room k0 (FL k)).2 = O := ⟨_, rfl⟩
        rw [hK, hO] at Q hput hOl
        have hol2 : (handOut K.near room K.ring).length ≤ K.ring.length := by
          unfold handOut; split
          · simp
          · split
            · simp
            · simp; omega
        have hfit : (s.spill ++ O).length + (handOut K.near room K.ring).length ≤ 60 := by
          have h1 : K.ring.length ≤ (ownW K).length := by unfold ownW; simp only [List.length_append]; omega
          rw [List.length_append]; omega
        have HPN := Lib.hid hput
        obtain ⟨_, _, _, hCq, _, hLq, _⟩ := Q.cells
        have c1 := hCq.cell 1 _ rfl
        have l0 := hLq i HI.out
        have HPUT := Lib.hid (fun (W : World) (h : Only [] wo W) => (Q.same h).put HI.out x)
        simp only [upW_same, upW_up'] at HPUT
        clear hNj hWj hcell hstep hx hxw hnx hput hOl hfl hown hk0l h30 hol2 hK hO hCq hLq Q
        go_wp2_with fail
        refine hold.mono ?_
        rintro e wz ⟨rfl, rfl⟩
        clear hold
        go_wp2_with fail
        go_region_law (first | (go_simp; go_at_call 77; refine (HPUT.out _ (by first | exact Only.refl _ _ | exact (Only.refl _ _).drew | exact (Only.refl _ _).drewN _)).mono ?_; rintro e w7 ⟨v7, F7, rfl, hI7, hS7, _, _, hd7⟩) | (go_simp; go_at_call 74; refine (hS7.spill_put _ _ hI7.reads hd7 hfit).mono ?_; rintro e w8 ⟨rfl, F8, hS8, _⟩))
        all_goals
          have hS9 : Hid (RRel w0 w6 F w8 q p room m ⟨upB s.done t, s.spill ++ (putAll room k0 (FL (k + 1))).2, s.row, upW s.ws i (putAll room k0 (FL (k + 1))).1⟩ F8) := by
            show RRel _ _ _ _ _ _ _ _ _ _
            rw [HPN.out, ← List.append_assoc]
            exact hS8
          clear hS8 hS7 hI7 hd7 HPUT c1 l0
          go_wp2_with fail
          go_roundw
          case rel => exact ⟨k + 1, mm + 1, F8, by omega, by omega, HNX.out, by go_num, by go_num, hS9.out⟩
          case measure => (simp [intOf]; try omega)
    · obtain rfl : k = ln := by omega
      rw [HFE.out] at Q
      have hmr : mm = r := by have := HMM.out; rw [HFE.out, HR0.out] at this; omega
      subst hmr
      obtain ⟨vf9, vh9, vr9, hC9, hI9, hG9, _, hrow⟩ := Q.rowed
      have e7 := hC9.cell 7 _ rfl
      have g7 := hC9.free 7 _ rfl
      have hcut := cutting vr9 s.row mm wo hI9.reads (by have := HH.out.row_len; omega) (by omega)
      have HROW := Lib.hid hrow
      have HQ9 := Lib.hid Q
      have HC9 := Lib.hid hC9
      have hw0 : w0.heap.size ≤ wo.heap.size := by obtain ⟨_, _, _, _, _, _, _, _, _, _, _, _, _, _, _, _, _, _, _, _, _, ho⟩ := Q.cells; exact ho.size
      clear hC9 hI9 hrow Q
      go_wp2_with fail
      refine hcut.mono ?_
      rintro e w9 ⟨va, vb, rfl, hIa, hIb, ho9⟩
      obtain ⟨aa, ac, rfl, hcell⟩ := hIa.opt
      obtain ⟨ba, bc, rfl, _⟩ := hIb.opt
      obtain ⟨F9, R9, hF9⟩ := HROW.out w9 _ _ [] (hIb.mono hw0) ho9 (by simp) (fun x hx => .inr (hIb.own_lt x hx).1)
      have hC9' := HC9.out.only ho9 (by simp)
      have e79 := hC9'.cell 7 _ rfl
      have g79 := hC9'.free 7 _ rfl
      obtain ⟨RW, hRW⟩ : ∃ RW, s.row.take mm = RW := ⟨_, rfl⟩
      obtain ⟨c, hc0⟩ : ∃ c, RW.length = c := ⟨_, rfl⟩
      obtain ⟨dl, hdl⟩ : ∃ dl, (s.row.drop mm).length = dl := ⟨_, rfl⟩
      rw [hRW] at hIa hcell ⊢
      rw [hc0] at hIa hcell ⊢
      rw [hdl] at R9 hF9 hIb ⊢
      have hrl := HH.out.row_len
      have hc6 : c ≤ 6 := by rw [← hc0, ← hRW, List.length_take]; omega
      obtain ⟨wA, hwA⟩ : ∃ wA, w9.setCell ⟨q.G, 7, none⟩ (.slice ba dl bc) = wA := ⟨_, rfl⟩
      rw [hwA] at R9
      have hsA : wA.heap.size = w9.heap.size := by rw [← hwA]; simp [World.setCell]
      have RALL := (HR6.out.trans R9)
      have hbF : ∀ x, F9 x → x ≠ w.heap.size := fun x hx e => by
        rcases RALL.kin x hx with h | h
        · have := (HL.out x h).2; omega
        · rcases hF9 x hx with h9 | h9
          · rcases HQ9.out.kin x h9 with h8 | h8
            · have := (HL.out x h8).2; omega
            · have := HR6.out.only.size; have h2 := HO3.out.size; have h3 := HS35.out; have h6 := HSZ6.out; omega
          · have := (hIb.own_lt x h9).1; have := HQ9.out.only.size; have h6 := HSZ6.out; have h2 := HO3.out.size; have h3 := HS35.out; omega
      have hD9 : OwnDeeds wA w.heap.size (.slice (some ⟨w.heap.size, 0, none⟩) 1 1) [⟨4, (i : Int), (t : Int), 0⟩] := by
        have hb : ∀ x ∈ own (.slice (some ⟨w.heap.size, 0, none⟩) 1 1), x = w.heap.size := fun x hx => by simpa [own, Value.ownBlock] using hx
        have d3 : OwnDeeds w3 w.heap.size (.slice (some ⟨w.heap.size, 0, none⟩) 1 1) [⟨4, (i : Int), (t : Int), 0⟩] := Row.only HD2.out HO3.out (by simp)
        have d5 : OwnDeeds W5 w.heap.size (.slice (some ⟨w.heap.size, 0, none⟩) 1 1) [⟨4, (i : Int), (t : Int), 0⟩] := Row.only d3 HO35.out (fun x hx hy => by
          have e := hb x hx
          have h2 : F q.A ∧ F q.T := HFAT.out
          have h3 := (HL.out _ h2.1).2
          have h4 := (HL.out _ h2.2).2
          simp at hy
          omega)
        have d6 : OwnDeeds w6 w.heap.size (.slice (some ⟨w.heap.size, 0, none⟩) 1 1) [⟨4, (i : Int), (t : Int), 0⟩] := Row.only d5 HO6.out (by simp)
        exact d6.onlyF R9.only (fun x hx hF => by have e := hb x hx; have := (HL.out x hF).2; omega)
      have hIaA : Ints wA wo.heap.size (.slice aa c ac) RW := by
        rw [← hwA]
        exact hIa.only ((Only.refl [q.G] w9).setCell (by simp) _) (fun g hg hx => by
          have h1 := (hIa.own_lt g (own_of hg)).1
          have h2 : q.G < wo.heap.size := cell_lt e7
          simp at hx
          omega)
      obtain ⟨aa', ac', hv', hcA⟩ := hIaA.opt
      injection hv' with ea eb ec
      subst ea
      clear eb ec
      have hgs : w.heap.size < wo.heap.size := by have := HQ9.out.only.size; have h6 := HSZ6.out; have h2 := HO3.out.size; have h3 := HS35.out; omega
      have ho9s := ho9.size
      have HRA := Lib.hid RALL
      have HBF := Lib.hid hbF
      have HD := Lib.hid hD9
      have HIA := Lib.hid hIaA
      have HCA := Lib.hid hcA
      have HRW := Lib.hid hRW
      have HC0 := Lib.hid hc0
      clear hIa hIb hcell RALL hbF hD9 hIaA hcA hRW hc0 hdl R9 hF9 hrl HQ9 HROW HC9 hC9' hcut ho9 hG9
      go_wp2_with fail
      clear hwA e7 g7 e79 g79
      go_loopw [9, 17] (fun vo vi wr => ∃ k : Nat, k ≤ c ∧ vi = .int .i64 k ∧ OwnDeeds wr w.heap.size vo (⟨4, (i : Int), (t : Int), 0⟩ :: (RW.take k).map fun x => (⟨6, x, 0, 0⟩ : Dd)) ∧ (∀ y ∈ own vo, y = w.heap.size ∨ wA.heap.size ≤ y) ∧ Only [w.heap.size] wA wr) (fun _ vi _ => c - (intOf vi).toNat)
      case atStart => exact ⟨0, Nat.zero_le _, rfl, by rw [List.take_zero]; exact HD.out, fun y hy => .inl (by simpa [own, Value.ownBlock] using hy), Only.refl _ _⟩
      case round =>
        obtain ⟨wo2, rfl⟩ : ∃ wo2 : World, wo2 = wr := ⟨_, rfl⟩
        obtain ⟨k, hk, rfl, hD, hown, ho⟩ := hrel
        obtain ⟨la, lc, rfl, hlc⟩ := Row.form hD
        by_cases hkc : k < c
        · obtain ⟨g, rfl, hg⟩ := HCA.out k (by rw [HC0.out]; exact hkc)
          have hgo := (HIA.out.own_lt g (by simp [own, Value.ownBlock])).1
          have hgl := cell_lt hg
          have hg2 : wo2.cell? ⟨g, k, none⟩ = some (.int .i64 (nth RW k)) := (ho.cell (p := ⟨g, k, none⟩) hgl (by simp; omega)).trans hg
          obtain ⟨X, hX⟩ : ∃ X, nth RW k = X := ⟨_, rfl⟩
          rw [hX] at hg2
          have hone := Lib.hid (RowAt.one (w := wo2.alloc (.cells #[.int .i64 6, .int .i64 X, .int .i64 0, .int .i64 0] 88)) (heap_alloc_new _ _) (k := 4) rfl (by simp [Value.oneCell']))
          have hnx := Lib.hid (show (⟨4, (i : Int), (t : Int), 0⟩ : Dd) :: ((RW.take (k + 1)).map fun x => (⟨6, x, 0, 0⟩ : Dd)) = (⟨4, (i : Int), (t : Int), 0⟩ :: (RW.take k).map fun x => (⟨6, x, 0, 0⟩ : Dd)) ++ [⟨6, X, 0, 0⟩] by
            rw [take_succ_nth RW k (by rw [HC0.out]; exact hkc), hX]; simp)
          have hlen : ((⟨4, (i : Int), (t : Int), 0⟩ : Dd) :: ((RW.take k).map fun x => (⟨6, x, 0, 0⟩ : Dd))).length = k + 1 := by simp [HC0.out]; omega
          obtain ⟨DS, hDS⟩ : ∃ DS : List Dd, (⟨4, (i : Int), (t : Int), 0⟩ :: (RW.take k).map fun x => (⟨6, x, 0, 0⟩ : Dd)) = DS := ⟨_, rfl⟩
          rw [hDS] at hD hnx hlen hlc hown ⊢
          rw [hlen] at hlc hown ⊢
          unfold OwnDeeds at hD
          rw [hlen] at hD
          have hsz : w.heap.size ≤ wo2.heap.size := by have := ho.size; omega
          have HLEN := Lib.hid hlen
          have HDo := Lib.hid hD
          have HO := Lib.hid ho
          have HOWN := Lib.hid hown
          clear hg hX hlen hDS hD ho hown
          go_wp2_with (at_builtin; refine wpList_append_rows sliceOf_deeds rfl (.tmp 147) (.tmp 153) rfl wo2 w.heap.size _ (k + 1) _ _ 1 _ HDo.out hone.out (by omega) hsz rfl rfl ((Only.refl [] wo2).alloc _) ?_; intro v3 w3 hI3 hO3 hK3)
          have hD3 : Hid (OwnDeeds w3 w.heap.size v3 (⟨4, (i : Int), (t : Int), 0⟩ :: (RW.take (k + 1)).map fun x => (⟨6, x, 0, 0⟩ : Dd))) := by
            show OwnDeeds _ _ _ _
            rw [hnx.out]
            unfold OwnDeeds
            rw [← flatE_push, List.length_append, HLEN.out]
            exact hI3
          have hw3 : Hid (∀ y ∈ own v3, y = w.heap.size ∨ wA.heap.size ≤ y) := fun y hy => by
            rcases hK3 y hy with h | h
            · exact HOWN.out y h
            · right; have := HO.out.size; omega
          have ho3 : Hid (Only [w.heap.size] wA w3) := HO.out.trans hO3 (fun x hx hl => by
            rcases HOWN.out x hx with h | h
            · simp [h]
            · omega)
          clear hI3 hO3 hK3
          go_wp2_with fail
          go_roundw
          case rel => exact ⟨k + 1, by omega, by go_num, hD3.out, hw3.out, ho3.out⟩
          case measure => (simp [intOf]; try omega)
        · obtain rfl : k = c := by omega
          have htk : RW.take k = RW := List.take_of_length_le (by rw [HC0.out]; exact Nat.le_refl _)
          rw [htk] at hD ⊢
          have HDo := Lib.hid hD
          have HFR := Lib.hid (HRA.out.fresh ho (fun x hx => by
            obtain rfl : x = w.heap.size := by simpa using hx
            exact ⟨fun h => HBF.out _ h rfl, Nat.le_refl _⟩) hw0s.out)
          clear hD hown ho htk
          go_wp2
          go_ret
          exact ⟨_, F9, rfl, by rw [HRW.out]; exact HDo.out, HFR.out⟩

end Go.Proofs.YtocpmncedlenbaaGreatDoor
