/-
  The document's gang: any step, what is left, what is held.
-/
import Derived.Test.YtocpmncedlenbaaGreatDoorP39GangPlays
import Derived.Test.YtocpmncedlenbaaGreatDoorP4GangPlays
namespace Go.Proofs.YtocpmncedlenbaaGreatDoor
open Go.RowKit Go.Deep

theorem ref_gstep {w0 w : World} {F : Nat → Prop} {q : RPar} {p : PlanL} {room m : Nat} {s : GSt} (h : RGangIs w0 w q p room m s F) (H : GInv p room m s) (hok : PlanOk p) {i : Nat} (hi : i < m) (pick : Nat) :
    Calls Tryz.prog 20 #[.pointer (some ⟨q.G, 0, none⟩), .int .i64 i, .int .i64 pick] w (RDone w0 w F q p room m (gStep p room m s i pick)) := by
  by_cases hr : (i : Int) ∈ s.row
  · exact ref_asleep h H i pick hr
  · by_cases ht : 0 ≤ (s.ws i).task
    · by_cases hl : 1 < (s.ws i).left
      · exact ref_unit h H hok hi pick hr ht hl
      · exact ref_finish h H hok hi pick hr ht hl
    · by_cases hn : 0 ≤ (s.ws i).near
      · exact ref_near h H hi pick hr ht (.inl hn)
      · by_cases hg : (s.ws i).ring = []
        · by_cases hs : s.spill = []
          · by_cases hh : pick % m = i
            · exact ref_self h H hi pick hr ht (by omega) hg hs hh
            · cases hrob : (s.ws (pick % m)).ring.take (halfOf (s.ws (pick % m)).ring) with
              | nil => exact ref_none h H hi pick hr ht (by omega) hg hs hh hrob
              | cons x xs => exact ref_robs h H hi pick hr ht (by omega) hg hs hh hrob
          · exact ref_spill h H hi pick hr ht (by omega) hg hs
        · exact ref_near h H hi pick hr ht (.inr hg)

/-- What else a walk reads. -/
theorem RRel.lists {w0 w1 w : World} {F0 F : Nat → Prop} {q : RPar} {p : PlanL} {room m : Nat} {s : GSt} (h : RRel w0 w1 F0 w q p room m s F) :
    (∃ vf vh vr, Cells w q.G [q.pv, .slice (some ⟨q.L, 0, none⟩) m q.cap, .slice (some ⟨q.T, 0, none⟩) m q.ct, .slice (some ⟨q.U, 0, none⟩) m q.cu, .int .i64 room, vf, vh, vr, .slice (some ⟨q.A, 0, none⟩) p.length p.length] ∧ Reads w vf (s.spill.take room) ∧ Reads w vh (s.spill.drop room)) ∧
      ∀ i, i < m → ∃ rv, Cells w (q.HB i) [.int .i64 room, .int .i64 (s.ws i).near, rv] ∧ Reads w rv (s.ws i).ring := by
  obtain ⟨lab, vr, rp, HF, hg, hF⟩ := h.gang
  refine ⟨?_, fun i hi => ?_⟩
  · obtain ⟨vf, vh, r, _, _⟩ := hg.spill
    exact ⟨vf, vh, vr, r.cells, r.front.reads, r.heap.reads⟩
  · obtain ⟨⟨rv, hc, hs, _, _⟩, _⟩ := hg.hands i hi
    exact ⟨rv, hc, hs.reads⟩

set_option maxRecDepth 100000 in
theorem ref_gLeft {w0 w : World} {F : Nat → Prop} {q : RPar} {p : PlanL} {room m : Nat} {s : GSt} (h : RGangIs w0 w q p room m s F) (h30 : p.length ≤ 30) :
    Calls Tryz.prog 28 #[.pointer (some ⟨q.G, 0, none⟩)] w fun e w' => e = .returned (.int .i64 (leftN p s.done : Int)) ∧ w = w' := by
  have R := RRel.start h
  obtain ⟨vf, vh, vr, hC, _, _, _, _, hB, _⟩ := R.cells
  have c8 := hC.cell 8 _ rfl
  obtain ⟨n, hn⟩ : ∃ n, p.length = n := ⟨_, rfl⟩
  have hlf : Hid (leftN p s.done = (List.range n).countP (fun i => !s.done i)) := by show _ = _; unfold leftN; rw [hn]
  rw [hn] at c8 hB h30
  rw [hlf.out]
  have HB := Lib.hid hB
  clear h R hC hB hn hlf
  go_enter Tryz.func28, Tryz.ntmps28
  go_wp2_with fail
  go_loopw [3, 4] (fun vc vi wr => ∃ i c : Nat, i ≤ n ∧ c ≤ i ∧ vi = .int .i64 i ∧ vc = .int .i64 c ∧ Hid ((List.range i).countP (fun i => !s.done i) = c) ∧ wr = w) (fun _ vi _ => n - (intOf vi).toNat)
  case atStart => exact ⟨0, 0, Nat.zero_le _, Nat.zero_le _, rfl, rfl, by show _ = _; rfl, rfl⟩
  case round =>
    obtain ⟨i, c, hi, hc, rfl, rfl, HC, rfl⟩ := hrel
    by_cases hin : i < n
    · obtain ⟨b0, _⟩ := HB.out i hin
      have hst : (List.range (i + 1)).countP (fun i => !s.done i) = c + if (!s.done i) = true then 1 else 0 := by
        rw [List.range_succ, List.countP_append, HC.out]
        congr 1
        cases hd : s.done i <;> simp [hd]
      cases hd : s.done i with
      | true =>
        rw [hd] at b0 hst
        have HST : Hid ((List.range (i + 1)).countP (fun i => !s.done i) = c) := by show _ = _; rw [hst]; rfl
        clear hst hd
        go_wp2
        go_roundw
        case rel => exact ⟨i + 1, c, by omega, by omega, by go_num, rfl, HST.out, by first | rfl | trivial⟩
        case measure => (simp [intOf]; try omega)
      | false =>
        rw [hd] at b0 hst
        have HST : Hid ((List.range (i + 1)).countP (fun i => !s.done i) = c + 1) := by show _ = _; rw [hst]; rfl
        clear hst hd
        go_wp2
        go_roundw
        case rel => exact ⟨i + 1, c + 1, by omega, by omega, by go_num, by go_num, HST.out, by first | rfl | trivial⟩
        case measure => (simp [intOf]; try omega)
    · obtain rfl : i = n := by omega
      go_wp2
      go_ret
      exact ⟨by rw [HC.out]; rfl, rfl⟩

/-- Whom a list names. -/
def mkL (X : List Int) : Nat → Bool := fun k => decide ((k : Int) ∈ X)
theorem mk_set {w : World} {A n : Nat} {X : List Int} (h : Bools w A n (mkL X)) (j : Nat) : Bools (w.setCell ⟨A, j, none⟩ (.bool true)) A n (mkL (X ++ [(j : Int)])) :=
  (h.set j true).congr fun i hi => by
    unfold mkL
    by_cases e : i = j
    · subst e; simp
    · simp [e]
      intro h
      omega
theorem mk_congr {w : World} {A n : Nat} {X Y : List Int} (h : Bools w A n (mkL X)) (e : ∀ x, x ∈ X ↔ x ∈ Y) : Bools w A n (mkL Y) :=
  h.congr fun i hi => by unfold mkL; simp [e]
theorem mk_held {p : PlanL} {room m : Nat} {s : GSt} (H : GInv p room m s) : (List.range p.length).filter (mkL (heldL m s)) = readyL p s.done := by
  unfold readyL
  refine List.filter_congr fun k hk => ?_
  have hk : k < p.length := by simpa using hk
  have h1 : (k : Int) ∈ heldL m s ↔ k ∈ readyL p s.done := by
    rw [H.held.mem_iff]
    unfold natL
    simp
    exact ⟨fun ⟨a, ha, e⟩ => by obtain rfl : a = k := by omega
                                exact ha, fun h => ⟨k, h, rfl⟩⟩
  unfold mkL
  cases hb : readyB p s.done k with
  | true =>
    have : k ∈ readyL p s.done := List.mem_filter.2 ⟨by simpa using hk, hb⟩
    simpa using h1.2 this
  | false =>
    have : k ∉ readyL p s.done := fun h => by have := (List.mem_filter.1 h).2; rw [hb] at this; cases this
    simpa using fun h => this (h1.1 h)

set_option maxRecDepth 100000 in
set_option maxHeartbeats 4000000 in
theorem ref_gHeld {w0 w : World} {F : Nat → Prop} {q : RPar} {p : PlanL} {room m : Nat} {s : GSt} (h : RGangIs w0 w q p room m s F) (H : GInv p room m s) (hok : PlanOk p) :
    Calls Tryz.prog 26 #[.pointer (some ⟨q.G, 0, none⟩)] w fun e w' => ∃ v, e = .returned v ∧ Ints w' w.heap.size v (natL (readyL p s.done)) ∧ Only [] w w' := by
  have R := RRel.start h
  obtain ⟨_, _, _, _, hP, hL, hT, _, _, _, _, m1, m6, _, r16, mc, cm, _⟩ := R.cells
  obtain ⟨⟨vf, vh, vr, hC, hf, hh⟩, hands⟩ := R.lists
  have h30 := hok.len
  have hsl := H.spill_len
  have ge : ∀ x ∈ heldL m s, ∃ k : Nat, x = (k : Int) ∧ k < p.length := fun x hx => by obtain ⟨i, e, hi⟩ := H.mem hx; exact ⟨i, e, (readyL_mem.1 hi).1⟩
  obtain ⟨fa, fc, rfl, hfc⟩ := hf.opt
  obtain ⟨ha, hc, rfl, hhc⟩ := hh.opt
  obtain ⟨FR, hFR⟩ : ∃ FR, s.spill.take room = FR := ⟨_, rfl⟩
  obtain ⟨HE, hHE⟩ : ∃ HE, s.spill.drop room = HE := ⟨_, rfl⟩
  rw [hFR] at hC hf hfc
  rw [hHE] at hC hh hhc
  have hsp : s.spill = FR ++ HE := by rw [← hFR, ← hHE, List.take_append_drop]
  have hfl : FR.length ≤ 30 ∧ HE.length ≤ 30 := by
    rw [hsp, List.length_append] at hsl
    omega
  obtain ⟨pa, pc, hpv, hpl, hpm, _⟩ := hP.task
  rw [hpv] at hC
  have c0 := hC.cell 0 _ rfl
  have HCW := Lib.hid (fun (W : World) (ho : Only [] w W) => hC.only ho (by simp))
  have HLW := Lib.hid (fun (W : World) (ho : Only [] w W) i (hi : i < m) => (ho.cell (p := ⟨q.L, i, none⟩) (cell_lt (hL i hi)) (by simp)).trans (hL i hi))
  have HTW := Lib.hid (fun (W : World) (ho : Only [] w W) => hT.only ho (by simp))
  have HFW := Lib.hid (fun (W : World) (ho : Only [] w W) j (hj : j < FR.length) => (show ∃ b off, fa = some ⟨b, off, none⟩ ∧ W.cell? ⟨b, off + j, none⟩ = some (.int .i64 (nth FR j)) by
    obtain ⟨b, off, e, hx⟩ := hfc j hj
    exact ⟨b, off, e, (ho.cell (p := ⟨b, off + j, none⟩) (cell_lt hx) (by simp)).trans hx⟩))
  have HHW := Lib.hid (fun (W : World) (ho : Only [] w W) j (hj : j < HE.length) => (show ∃ b off, ha = some ⟨b, off, none⟩ ∧ W.cell? ⟨b, off + j, none⟩ = some (.int .i64 (nth HE j)) by
    obtain ⟨b, off, e, hx⟩ := hhc j hj
    exact ⟨b, off, e, (ho.cell (p := ⟨b, off + j, none⟩) (cell_lt hx) (by simp)).trans hx⟩))
  have HHA := Lib.hid (fun i (hi : i < m) => (show ∃ ra rc, ∀ W, Only [] w W → Cells W (q.HB i) [.int .i64 room, .int .i64 (s.ws i).near, .slice ra (s.ws i).ring.length rc] ∧ ∀ j, j < (s.ws i).ring.length → ∃ b off, ra = some ⟨b, off, none⟩ ∧ W.cell? ⟨b, off + j, none⟩ = some (.int .i64 (nth (s.ws i).ring j)) by
    obtain ⟨rv, h1, h2⟩ := hands i hi
    obtain ⟨ra, rc, rfl, h3⟩ := h2.opt
    refine ⟨ra, rc, fun W ho => ⟨h1.only ho (by simp), fun j hj => ?_⟩⟩
    obtain ⟨b, off, e, hx⟩ := h3 j hj
    exact ⟨b, off, e, (ho.cell (p := ⟨b, off + j, none⟩) (cell_lt hx) (by simp)).trans hx⟩))
  obtain ⟨n, hn⟩ : ∃ n, p.length = n := ⟨_, rfl⟩
  have HRE : Hid ((List.range n).filter (mkL (heldL m s)) = readyL p s.done) := by show _ = _; rw [← hn]; exact mk_held H
  rw [hn] at c0 h30 hsl ge HCW
  have HGE := Lib.hid ge
  have HSP := Lib.hid hsp
  have HRM := Lib.hid H.room
  obtain ⟨fl, hflen⟩ : ∃ fl, FR.length = fl := ⟨_, rfl⟩
  obtain ⟨hl, hhlen⟩ : ∃ hl, HE.length = hl := ⟨_, rfl⟩
  rw [hflen] at HCW HFW hfl
  rw [hhlen] at HCW HHW hfl
  obtain ⟨hfl1, hfl2⟩ := hfl
  have HFL := Lib.hid (And.intro hflen hhlen)
  have hmk := make_bools n (by omega)
  have hB0 := made_bools w n
  obtain ⟨Z, hZ⟩ : ∃ Z, w.heap.size = Z := ⟨_, rfl⟩
  rw [hZ] at hB0
  have HZ := Lib.hid hZ
  obtain ⟨W0, hW0⟩ : ∃ W0, w.alloc (.cells (madeCells #[.bool false] n) 4) = W0 := ⟨_, rfl⟩
  have HO0 := Lib.hid (show Only [] w W0 by rw [← hW0]; exact (Only.refl [] w).alloc _)
  have hBZ : Bools W0 Z n (mkL []) := by rw [← hW0]; exact hB0.congr fun i hi => by simp [mkL]
  have HZW := Lib.hid (show W0.heap.size = Z + 1 by rw [← hW0, ← hZ]; simp)
  have HB0 := Lib.hid hBZ
  clear h R hP hL hT hC hf hh hands hfc hhc hpv hpm hn hsp hflen hhlen hB0 hBZ hsl ge hFR hHE H
  go_enter Tryz.func26, Tryz.ntmps26
  go_wp2_with fail
  clear hmk hZ hW0
  go_loopw [4] (fun vj wr => ∃ j : Nat, j ≤ fl ∧ vj = .int .i64 j ∧ Bools wr Z n (mkL (FR.take j)) ∧ Only [] w wr) (fun vj _ => fl - (intOf vj).toNat)
  case atStart => exact ⟨0, Nat.zero_le _, rfl, by rw [List.take_zero]; exact HB0.out, HO0.out⟩
  case round =>
    obtain ⟨wo, rfl⟩ : ∃ wo : World, wo = wr := ⟨_, rfl⟩
    obtain ⟨j, hj, rfl, hB, ho⟩ := hrel
    have hCq := HCW.out wo ho
    have c5 := hCq.cell 5 _ rfl
    clear hCq
    by_cases hjl : j < fl
    · obtain ⟨b, off, rfl, hx⟩ := HFW.out wo ho j hjl
      obtain ⟨k, hk, hkn⟩ := HGE.out (nth FR j) (by
        have hm : nth FR j ∈ FR := by simp [nth, List.getElem?_eq_getElem (show j < FR.length by have := HFL.out; omega)]
        unfold heldL
        rw [HSP.out]
        simp [hm])
      rw [hk] at hx
      obtain ⟨b0, b1⟩ := hB k hkn
      have hBn : Hid (Bools (wo.setCell ⟨Z, k, none⟩ (.bool true)) Z n (mkL (FR.take (j + 1)))) := by
        show Bools _ _ _ _
        rw [take_succ_nth FR j (by have := HFL.out; omega), hk]
        exact mk_set hB k
      have hon : Hid (Only [] w (wo.setCell ⟨Z, k, none⟩ (.bool true))) := ho.trans ((Only.refl [Z] wo).setCell (by simp) _) (fun x hx hl => by have := HZ.out; simp at hx; omega)
      clear hB ho hk
      go_wp2_with fail
      go_roundw
      case rel => exact ⟨j + 1, by omega, by go_num, hBn.out, hon.out⟩
      case measure => (simp [intOf]; try omega)
    · obtain rfl : j = fl := by omega
      rw [List.take_of_length_le (by have := HFL.out; omega)] at hB
      have HB1 := Lib.hid hB
      have HO1 := Lib.hid ho
      clear hB ho
      go_wp2_with fail
      go_loopw [5] (fun vj wr => ∃ j : Nat, j ≤ hl ∧ vj = .int .i64 j ∧ Bools wr Z n (mkL (FR ++ HE.take j)) ∧ Only [] w wr) (fun vj _ => hl - (intOf vj).toNat)
      case atStart => exact ⟨0, Nat.zero_le _, rfl, by rw [List.take_zero, List.append_nil]; exact HB1.out, HO1.out⟩
      case round =>
        obtain ⟨wo, rfl⟩ : ∃ wo : World, wo = wr := ⟨_, rfl⟩
        obtain ⟨j, hj, rfl, hB, ho⟩ := hrel
        have hCq := HCW.out wo ho
        have c5 := hCq.cell 6 _ rfl
        clear hCq
        by_cases hjl : j < hl
        · obtain ⟨b, off, rfl, hx⟩ := HHW.out wo ho j hjl
          obtain ⟨k, hk, hkn⟩ := HGE.out (nth HE j) (by
            have hm : nth HE j ∈ HE := by simp [nth, List.getElem?_eq_getElem (show j < HE.length by have := HFL.out; omega)]
            unfold heldL
            rw [HSP.out]
            simp [hm])
          rw [hk] at hx
          obtain ⟨b0, b1⟩ := hB k hkn
          have hBn : Hid (Bools (wo.setCell ⟨Z, k, none⟩ (.bool true)) Z n (mkL (FR ++ HE.take (j + 1)))) := by
            show Bools _ _ _ _
            rw [take_succ_nth HE j (by have := HFL.out; omega), hk, ← List.append_assoc]
            exact mk_set hB k
          have hon : Hid (Only [] w (wo.setCell ⟨Z, k, none⟩ (.bool true))) := ho.trans ((Only.refl [Z] wo).setCell (by simp) _) (fun x hx hl => by have := HZ.out; simp at hx; omega)
          clear hB ho hk
          go_wp2_with fail
          go_roundw
          case rel => exact ⟨j + 1, by omega, by go_num, hBn.out, hon.out⟩
          case measure => (simp [intOf]; try omega)
        · obtain rfl : j = hl := by omega
          rw [List.take_of_length_le (by have := HFL.out; omega), ← HSP.out] at hB
          have HB2 := Lib.hid hB
          have HO2 := Lib.hid ho
          clear hB ho
          go_wp2_with fail
          go_loopw [6, 7] (fun vh _ wr => ∃ h : Nat, h ≤ m ∧ vh = .int .i64 h ∧ Bools wr Z n (mkL (s.spill ++ workL h s.ws)) ∧ Only [] w wr) (fun vh _ _ => m - (intOf vh).toNat)
          case atStart => exact ⟨0, Nat.zero_le _, rfl, by rw [show workL 0 s.ws = [] from rfl, List.append_nil]; exact HB2.out, HO2.out⟩
          case round =>
            obtain ⟨wo, rfl⟩ : ∃ wo : World, wo = wr := ⟨_, rfl⟩
            obtain ⟨h, hh, rfl, hB, ho⟩ := hrel
            clear c5 c0
            have hCq := HCW.out wo ho
            have c1 := hCq.cell 1 _ rfl
            have c2 := hCq.cell 2 _ rfl
            clear hCq
            by_cases hhm : h < m
            · obtain ⟨t0, _⟩ : wo.cell? ⟨q.T, h, none⟩ = some (.int .i64 (s.ws h).task) ∧ _ := HTW.out wo ho h hhm
              have l0 := HLW.out wo ho h hhm
              obtain ⟨ra, rc, hRV⟩ := HHA.out h hhm
              have HGH := Lib.hid (fun x (hx : x ∈ ownW (s.ws h)) => HGE.out x (held_own hhm hx))
              have hrm := HRM.out h hhm
              obtain ⟨rl, hrl⟩ : ∃ rl, (s.ws h).ring.length = rl := ⟨_, rfl⟩
              have HRL := Lib.hid hrl
              have HRV := Lib.hid hRV
              have hRV' : ∀ W, Only [] w W → Cells W (q.HB h) [.int .i64 room, .int .i64 (s.ws h).near, .slice ra rl rc] ∧ True := fun W ho => ⟨by rw [← hrl]; exact (hRV W ho).1, trivial⟩
              have hRV'' : ∀ W, Only [] w W → Cells W (q.HB h) [.int .i64 room, .int .i64 (s.ws h).near, .slice ra rl rc] ∧ ∀ j, j < (s.ws h).ring.length → ∃ b off, ra = some ⟨b, off, none⟩ ∧ W.cell? ⟨b, off + j, none⟩ = some (.int .i64 (nth (s.ws h).ring j)) := fun W ho => ⟨(hRV' W ho).1, (hRV W ho).2⟩
              clear hRV HRV
              have hRV := hRV'
              have HRV := Lib.hid hRV''
              rw [hrl] at hrm
              clear hRV' hRV'' hrl
              by_cases ht : 0 ≤ (s.ws h).task
              · obtain ⟨a, ha, han⟩ := HGH.out (s.ws h).task (by unfold ownW; rw [nearL_pos ht]; simp)
                rw [ha] at t0
                obtain ⟨b0, b1⟩ := hB a han
                obtain ⟨w1, hw1⟩ : ∃ w1, wo.setCell ⟨Z, a, none⟩ (.bool true) = w1 := ⟨_, rfl⟩
                have hB1 : Bools w1 Z n (mkL (s.spill ++ workL h s.ws ++ nearL (s.ws h).task)) := by rw [← hw1, nearL_pos ht, ha]; exact mk_set hB a
                have ho1 : Only [] w w1 := by rw [← hw1]; exact ho.trans ((Only.refl [Z] _).setCell (by simp) _) (fun x hx hl => by have := HZ.out; simp at hx; omega)
                clear hB ho ha
                have l1 := HLW.out w1 ho1 h hhm
                have c11 := (HCW.out w1 ho1).cell 1 _ rfl
                obtain ⟨hcd, _⟩ := hRV w1 ho1
                have d1 := hcd.cell 1 _ rfl
                clear hcd
                by_cases hn : 0 ≤ (s.ws h).near
                · obtain ⟨b, hb, hbn⟩ := HGH.out (s.ws h).near (by unfold ownW; rw [nearL_pos hn]; simp)
                  rw [hb] at d1
                  obtain ⟨b2, b3⟩ := hB1 b hbn
                  obtain ⟨w2, hw2⟩ : ∃ w2, (w1).setCell ⟨Z, b, none⟩ (.bool true) = w2 := ⟨_, rfl⟩
                  have hB2 : Bools w2 Z n (mkL ((s.spill ++ workL h s.ws ++ nearL (s.ws h).task) ++ nearL (s.ws h).near)) := by rw [← hw2, nearL_pos hn, hb]; exact mk_set hB1 b
                  have ho2 : Only [] w w2 := by rw [← hw2]; exact (ho1).trans ((Only.refl [Z] _).setCell (by simp) _) (fun x hx hl => by have := HZ.out; simp at hx; omega)
                  have l2 := HLW.out w2 ho2 h hhm
                  have c12 := (HCW.out w2 ho2).cell 1 _ rfl
                  clear hB1 ho1 hb
                  obtain ⟨hcd2, _⟩ := hRV w2 ho2
                  have d2 := hcd2.cell 2 _ rfl
                  have HB3 := Lib.hid hB2
                  have HO3 := Lib.hid ho2
                  clear hB2 ho2 hcd2
                  go_wp2_with fail
                  go_loopw [7] (fun vj wr => ∃ j : Nat, j ≤ rl ∧ vj = .int .i64 j ∧ Bools wr Z n (mkL (((s.spill ++ workL h s.ws ++ nearL (s.ws h).task) ++ nearL (s.ws h).near) ++ (s.ws h).ring.take j)) ∧ Only [] w wr) (fun vj _ => rl - (intOf vj).toNat)
                  case atStart => exact ⟨0, Nat.zero_le _, rfl, by rw [List.take_zero, List.append_nil]; exact HB3.out, HO3.out⟩
                  case round =>
                    obtain ⟨wp, rfl⟩ : ∃ wp : World, wp = wr := ⟨_, rfl⟩
                    obtain ⟨j, hj, rfl, hB4, ho4⟩ := hrel
                    have k1 := (HCW.out wp ho4).cell 1 _ rfl
                    have kl := HLW.out wp ho4 h hhm
                    obtain ⟨hcd4, hrc⟩ := HRV.out wp ho4
                    have k2 := hcd4.cell 2 _ rfl
                    clear hcd4
                    by_cases hjl : j < rl
                    · obtain ⟨bb, off, rfl, hx⟩ := hrc j (by rw [HRL.out]; exact hjl)
                      obtain ⟨k, hk, hkn⟩ := HGH.out (nth (s.ws h).ring j) (by
                        have hm : nth (s.ws h).ring j ∈ (s.ws h).ring := by simp [nth, List.getElem?_eq_getElem (show j < (s.ws h).ring.length by have := HRL.out; omega)]
                        unfold ownW
                        simp [hm])
                      rw [hk] at hx
                      obtain ⟨y0, y1⟩ := hB4 k hkn
                      have hBn : Hid (Bools (wp.setCell ⟨Z, k, none⟩ (.bool true)) Z n (mkL (((s.spill ++ workL h s.ws ++ nearL (s.ws h).task) ++ nearL (s.ws h).near) ++ (s.ws h).ring.take (j + 1)))) := by
                        show Bools _ _ _ _
                        rw [take_succ_nth (s.ws h).ring j (by have := HRL.out; omega), hk, ← List.append_assoc]
                        exact mk_set hB4 k
                      have hon : Hid (Only [] w (wp.setCell ⟨Z, k, none⟩ (.bool true))) := ho4.trans ((Only.refl [Z] wp).setCell (by simp) _) (fun x hx hl => by have := HZ.out; simp at hx; omega)
                      clear hB4 ho4 hk hrc
                      go_wp2_with fail
                      go_roundw
                      case rel => exact ⟨j + 1, by omega, by go_num, hBn.out, hon.out⟩
                      case measure => (simp [intOf]; try omega)
                    · obtain rfl : j = rl := by omega
                      rw [List.take_of_length_le (by have := HRL.out; omega)] at hB4
                      have hB5 : Bools wp Z n (mkL (s.spill ++ workL (h + 1) s.ws)) := mk_congr hB4 fun x => by
                        show _ ↔ x ∈ s.spill ++ (workL h s.ws ++ ((s.ws h).ring ++ nearL (s.ws h).near ++ nearL (s.ws h).task))
                        simp only [List.mem_append]
                        constructor
                        · rintro ((((h1 | h1) | h1) | h1) | h1) <;> simp [h1]
                        · rintro (h1 | h1 | ((h1 | h1) | h1)) <;> simp [h1]
                      have HB5 := Lib.hid hB5
                      have HO5 := Lib.hid ho4
                      clear hB4 hB5 ho4 hrc
                      go_wp2_with fail
                      go_roundw
                      case rel => exact ⟨h + 1, by omega, by go_num, HB5.out, HO5.out⟩
                      case measure => (simp [intOf]; try omega)
                · have hB2 : Bools w1 Z n (mkL ((s.spill ++ workL h s.ws ++ nearL (s.ws h).task) ++ nearL (s.ws h).near)) := by rw [nearL_neg (show (s.ws h).near < 0 by omega), List.append_nil]; exact hB1
                  have hn2 : (s.ws h).near < 0 := by omega
                  clear hB1
                  obtain ⟨hcd2, _⟩ := hRV w1 ho1
                  have d2 := hcd2.cell 2 _ rfl
                  have HB3 := Lib.hid hB2
                  have HO3 := Lib.hid ho1
                  clear hB2 ho1 hcd2
                  go_wp2_with fail
                  go_loopw [7] (fun vj wr => ∃ j : Nat, j ≤ rl ∧ vj = .int .i64 j ∧ Bools wr Z n (mkL (((s.spill ++ workL h s.ws ++ nearL (s.ws h).task) ++ nearL (s.ws h).near) ++ (s.ws h).ring.take j)) ∧ Only [] w wr) (fun vj _ => rl - (intOf vj).toNat)
                  case atStart => exact ⟨0, Nat.zero_le _, rfl, by rw [List.take_zero, List.append_nil]; exact HB3.out, HO3.out⟩
                  case round =>
                    obtain ⟨wp, rfl⟩ : ∃ wp : World, wp = wr := ⟨_, rfl⟩
                    obtain ⟨j, hj, rfl, hB4, ho4⟩ := hrel
                    have k1 := (HCW.out wp ho4).cell 1 _ rfl
                    have kl := HLW.out wp ho4 h hhm
                    obtain ⟨hcd4, hrc⟩ := HRV.out wp ho4
                    have k2 := hcd4.cell 2 _ rfl
                    clear hcd4
                    by_cases hjl : j < rl
                    · obtain ⟨bb, off, rfl, hx⟩ := hrc j (by rw [HRL.out]; exact hjl)
                      obtain ⟨k, hk, hkn⟩ := HGH.out (nth (s.ws h).ring j) (by
                        have hm : nth (s.ws h).ring j ∈ (s.ws h).ring := by simp [nth, List.getElem?_eq_getElem (show j < (s.ws h).ring.length by have := HRL.out; omega)]
                        unfold ownW
                        simp [hm])
                      rw [hk] at hx
                      obtain ⟨y0, y1⟩ := hB4 k hkn
                      have hBn : Hid (Bools (wp.setCell ⟨Z, k, none⟩ (.bool true)) Z n (mkL (((s.spill ++ workL h s.ws ++ nearL (s.ws h).task) ++ nearL (s.ws h).near) ++ (s.ws h).ring.take (j + 1)))) := by
                        show Bools _ _ _ _
                        rw [take_succ_nth (s.ws h).ring j (by have := HRL.out; omega), hk, ← List.append_assoc]
                        exact mk_set hB4 k
                      have hon : Hid (Only [] w (wp.setCell ⟨Z, k, none⟩ (.bool true))) := ho4.trans ((Only.refl [Z] wp).setCell (by simp) _) (fun x hx hl => by have := HZ.out; simp at hx; omega)
                      clear hB4 ho4 hk hrc
                      go_wp2_with fail
                      go_roundw
                      case rel => exact ⟨j + 1, by omega, by go_num, hBn.out, hon.out⟩
                      case measure => (simp [intOf]; try omega)
                    · obtain rfl : j = rl := by omega
                      rw [List.take_of_length_le (by have := HRL.out; omega)] at hB4
                      have hB5 : Bools wp Z n (mkL (s.spill ++ workL (h + 1) s.ws)) := mk_congr hB4 fun x => by
                        show _ ↔ x ∈ s.spill ++ (workL h s.ws ++ ((s.ws h).ring ++ nearL (s.ws h).near ++ nearL (s.ws h).task))
                        simp only [List.mem_append]
                        constructor
                        · rintro ((((h1 | h1) | h1) | h1) | h1) <;> simp [h1]
                        · rintro (h1 | h1 | ((h1 | h1) | h1)) <;> simp [h1]
                      have HB5 := Lib.hid hB5
                      have HO5 := Lib.hid ho4
                      clear hB4 hB5 ho4 hrc
                      go_wp2_with fail
                      go_roundw
                      case rel => exact ⟨h + 1, by omega, by go_num, HB5.out, HO5.out⟩
                      case measure => (simp [intOf]; try omega)
              · have hB1 : Bools wo Z n (mkL (s.spill ++ workL h s.ws ++ nearL (s.ws h).task)) := by rw [nearL_neg (by omega), List.append_nil]; exact hB
                have ht2 : (s.ws h).task < 0 := by omega
                clear hB
                have l1 := HLW.out wo ho h hhm
                have c11 := (HCW.out wo ho).cell 1 _ rfl
                obtain ⟨hcd, _⟩ := hRV wo ho
                have d1 := hcd.cell 1 _ rfl
                clear hcd
                by_cases hn : 0 ≤ (s.ws h).near
                · obtain ⟨b, hb, hbn⟩ := HGH.out (s.ws h).near (by unfold ownW; rw [nearL_pos hn]; simp)
                  rw [hb] at d1
                  obtain ⟨b2, b3⟩ := hB1 b hbn
                  obtain ⟨w2, hw2⟩ : ∃ w2, (wo).setCell ⟨Z, b, none⟩ (.bool true) = w2 := ⟨_, rfl⟩
                  have hB2 : Bools w2 Z n (mkL ((s.spill ++ workL h s.ws ++ nearL (s.ws h).task) ++ nearL (s.ws h).near)) := by rw [← hw2, nearL_pos hn, hb]; exact mk_set hB1 b
                  have ho2 : Only [] w w2 := by rw [← hw2]; exact (ho).trans ((Only.refl [Z] _).setCell (by simp) _) (fun x hx hl => by have := HZ.out; simp at hx; omega)
                  have l2 := HLW.out w2 ho2 h hhm
                  have c12 := (HCW.out w2 ho2).cell 1 _ rfl
                  clear hB1 ho hb
                  obtain ⟨hcd2, _⟩ := hRV w2 ho2
                  have d2 := hcd2.cell 2 _ rfl
                  have HB3 := Lib.hid hB2
                  have HO3 := Lib.hid ho2
                  clear hB2 ho2 hcd2
                  go_wp2_with fail
                  go_loopw [7] (fun vj wr => ∃ j : Nat, j ≤ rl ∧ vj = .int .i64 j ∧ Bools wr Z n (mkL (((s.spill ++ workL h s.ws ++ nearL (s.ws h).task) ++ nearL (s.ws h).near) ++ (s.ws h).ring.take j)) ∧ Only [] w wr) (fun vj _ => rl - (intOf vj).toNat)
                  case atStart => exact ⟨0, Nat.zero_le _, rfl, by rw [List.take_zero, List.append_nil]; exact HB3.out, HO3.out⟩
                  case round =>
                    obtain ⟨wp, rfl⟩ : ∃ wp : World, wp = wr := ⟨_, rfl⟩
                    obtain ⟨j, hj, rfl, hB4, ho4⟩ := hrel
                    have k1 := (HCW.out wp ho4).cell 1 _ rfl
                    have kl := HLW.out wp ho4 h hhm
                    obtain ⟨hcd4, hrc⟩ := HRV.out wp ho4
                    have k2 := hcd4.cell 2 _ rfl
                    clear hcd4
                    by_cases hjl : j < rl
                    · obtain ⟨bb, off, rfl, hx⟩ := hrc j (by rw [HRL.out]; exact hjl)
                      obtain ⟨k, hk, hkn⟩ := HGH.out (nth (s.ws h).ring j) (by
                        have hm : nth (s.ws h).ring j ∈ (s.ws h).ring := by simp [nth, List.getElem?_eq_getElem (show j < (s.ws h).ring.length by have := HRL.out; omega)]
                        unfold ownW
                        simp [hm])
                      rw [hk] at hx
                      obtain ⟨y0, y1⟩ := hB4 k hkn
                      have hBn : Hid (Bools (wp.setCell ⟨Z, k, none⟩ (.bool true)) Z n (mkL (((s.spill ++ workL h s.ws ++ nearL (s.ws h).task) ++ nearL (s.ws h).near) ++ (s.ws h).ring.take (j + 1)))) := by
                        show Bools _ _ _ _
                        rw [take_succ_nth (s.ws h).ring j (by have := HRL.out; omega), hk, ← List.append_assoc]
                        exact mk_set hB4 k
                      have hon : Hid (Only [] w (wp.setCell ⟨Z, k, none⟩ (.bool true))) := ho4.trans ((Only.refl [Z] wp).setCell (by simp) _) (fun x hx hl => by have := HZ.out; simp at hx; omega)
                      clear hB4 ho4 hk hrc
                      go_wp2_with fail
                      go_roundw
                      case rel => exact ⟨j + 1, by omega, by go_num, hBn.out, hon.out⟩
                      case measure => (simp [intOf]; try omega)
                    · obtain rfl : j = rl := by omega
                      rw [List.take_of_length_le (by have := HRL.out; omega)] at hB4
                      have hB5 : Bools wp Z n (mkL (s.spill ++ workL (h + 1) s.ws)) := mk_congr hB4 fun x => by
                        show _ ↔ x ∈ s.spill ++ (workL h s.ws ++ ((s.ws h).ring ++ nearL (s.ws h).near ++ nearL (s.ws h).task))
                        simp only [List.mem_append]
                        constructor
                        · rintro ((((h1 | h1) | h1) | h1) | h1) <;> simp [h1]
                        · rintro (h1 | h1 | ((h1 | h1) | h1)) <;> simp [h1]
                      have HB5 := Lib.hid hB5
                      have HO5 := Lib.hid ho4
                      clear hB4 hB5 ho4 hrc
                      go_wp2_with fail
                      go_roundw
                      case rel => exact ⟨h + 1, by omega, by go_num, HB5.out, HO5.out⟩
                      case measure => (simp [intOf]; try omega)
                · have hB2 : Bools wo Z n (mkL ((s.spill ++ workL h s.ws ++ nearL (s.ws h).task) ++ nearL (s.ws h).near)) := by rw [nearL_neg (show (s.ws h).near < 0 by omega), List.append_nil]; exact hB1
                  have hn2 : (s.ws h).near < 0 := by omega
                  clear hB1
                  obtain ⟨hcd2, _⟩ := hRV wo ho
                  have d2 := hcd2.cell 2 _ rfl
                  have HB3 := Lib.hid hB2
                  have HO3 := Lib.hid ho
                  clear hB2 ho hcd2
                  go_wp2_with fail
                  go_loopw [7] (fun vj wr => ∃ j : Nat, j ≤ rl ∧ vj = .int .i64 j ∧ Bools wr Z n (mkL (((s.spill ++ workL h s.ws ++ nearL (s.ws h).task) ++ nearL (s.ws h).near) ++ (s.ws h).ring.take j)) ∧ Only [] w wr) (fun vj _ => rl - (intOf vj).toNat)
                  case atStart => exact ⟨0, Nat.zero_le _, rfl, by rw [List.take_zero, List.append_nil]; exact HB3.out, HO3.out⟩
                  case round =>
                    obtain ⟨wp, rfl⟩ : ∃ wp : World, wp = wr := ⟨_, rfl⟩
                    obtain ⟨j, hj, rfl, hB4, ho4⟩ := hrel
                    have k1 := (HCW.out wp ho4).cell 1 _ rfl
                    have kl := HLW.out wp ho4 h hhm
                    obtain ⟨hcd4, hrc⟩ := HRV.out wp ho4
                    have k2 := hcd4.cell 2 _ rfl
                    clear hcd4
                    by_cases hjl : j < rl
                    · obtain ⟨bb, off, rfl, hx⟩ := hrc j (by rw [HRL.out]; exact hjl)
                      obtain ⟨k, hk, hkn⟩ := HGH.out (nth (s.ws h).ring j) (by
                        have hm : nth (s.ws h).ring j ∈ (s.ws h).ring := by simp [nth, List.getElem?_eq_getElem (show j < (s.ws h).ring.length by have := HRL.out; omega)]
                        unfold ownW
                        simp [hm])
                      rw [hk] at hx
                      obtain ⟨y0, y1⟩ := hB4 k hkn
                      have hBn : Hid (Bools (wp.setCell ⟨Z, k, none⟩ (.bool true)) Z n (mkL (((s.spill ++ workL h s.ws ++ nearL (s.ws h).task) ++ nearL (s.ws h).near) ++ (s.ws h).ring.take (j + 1)))) := by
                        show Bools _ _ _ _
                        rw [take_succ_nth (s.ws h).ring j (by have := HRL.out; omega), hk, ← List.append_assoc]
                        exact mk_set hB4 k
                      have hon : Hid (Only [] w (wp.setCell ⟨Z, k, none⟩ (.bool true))) := ho4.trans ((Only.refl [Z] wp).setCell (by simp) _) (fun x hx hl => by have := HZ.out; simp at hx; omega)
                      clear hB4 ho4 hk hrc
                      go_wp2_with fail
                      go_roundw
                      case rel => exact ⟨j + 1, by omega, by go_num, hBn.out, hon.out⟩
                      case measure => (simp [intOf]; try omega)
                    · obtain rfl : j = rl := by omega
                      rw [List.take_of_length_le (by have := HRL.out; omega)] at hB4
                      have hB5 : Bools wp Z n (mkL (s.spill ++ workL (h + 1) s.ws)) := mk_congr hB4 fun x => by
                        show _ ↔ x ∈ s.spill ++ (workL h s.ws ++ ((s.ws h).ring ++ nearL (s.ws h).near ++ nearL (s.ws h).task))
                        simp only [List.mem_append]
                        constructor
                        · rintro ((((h1 | h1) | h1) | h1) | h1) <;> simp [h1]
                        · rintro (h1 | h1 | ((h1 | h1) | h1)) <;> simp [h1]
                      have HB5 := Lib.hid hB5
                      have HO5 := Lib.hid ho4
                      clear hB4 hB5 ho4 hrc
                      go_wp2_with fail
                      go_roundw
                      case rel => exact ⟨h + 1, by omega, by go_num, HB5.out, HO5.out⟩
                      case measure => (simp [intOf]; try omega)
            · obtain rfl : h = m := by omega
              have HB3 := Lib.hid hB
              have HO3 := Lib.hid ho
              clear hB ho c2
              go_wp2_with fail
              have HHE : Hid (mkL (heldL h s) = mkL (s.spill ++ workL h s.ws)) := rfl
              obtain ⟨M, hM⟩ : ∃ M, mkL (s.spill ++ workL h s.ws) = M := ⟨_, rfl⟩
              have HREM : Hid ((List.range n).filter M = readyL p s.done) := by show _ = _; rw [← hM]; exact HRE.out
              rw [hM] at HB3
              go_loopw [8, 9] (fun vo vi wr => ∃ i : Nat, i ≤ n ∧ vi = .int .i64 i ∧ Ints wr w.heap.size vo (natL ((List.range i).filter M)) ∧ Bools wr Z n M ∧ Z ∉ own vo ∧ Only [] w wr) (fun _ vi _ => n - (intOf vi).toNat)
              case atStart => exact ⟨0, Nat.zero_le _, rfl, Ints.nil _ _, HB3.out, by simp [own, Value.ownBlock], HO3.out⟩
              case round =>
                obtain ⟨wo, rfl⟩ : ∃ wo : World, wo = wr := ⟨_, rfl⟩
                obtain ⟨i, hi, rfl, hI, hB, hZo, ho⟩ := hrel
                by_cases hin : i < n
                · obtain ⟨b0, _⟩ := hB i hin
                  have hst : natL ((List.range (i + 1)).filter M) = natL ((List.range i).filter M) ++ (if M i = true then [(i : Int)] else []) := by
                    rw [List.range_succ, List.filter_append]
                    unfold natL
                    rw [List.map_append]
                    congr 1
                    cases hm : M i <;> simp [hm]
                  cases hm : M i with
                  | false =>
                    rw [hm] at b0 hst
                    rw [if_neg (by simp), List.append_nil] at hst
                    rw [← hst] at hI
                    have hI2 := Lib.hid hI
                    have HB4 := Lib.hid hB
                    have HO4 := Lib.hid ho
                    have HZ4 := Lib.hid hZo
                    clear hI hB hst hm ho hZo
                    go_wp2_with fail
                    go_roundw
                    case rel => exact ⟨i + 1, by omega, by go_num, hI2.out, HB4.out, HZ4.out, HO4.out⟩
                    case measure => (simp [intOf]; try omega)
                  | true =>
                    rw [hm] at b0 hst
                    have HST : Hid (natL ((List.range (i + 1)).filter M) = natL ((List.range i).filter M) ++ [(i : Int)]) := by show _ = _; rw [hst, if_pos rfl]
                    have hll : (natL ((List.range i).filter M)).length ≤ i := by
                      rw [natL_len]
                      have := List.length_filter_le M (List.range i)
                      rw [List.length_range] at this
                      exact this
                    obtain ⟨X, hX⟩ : ∃ X, natL ((List.range i).filter M) = X := ⟨_, rfl⟩
                    rw [hX] at hI hll HST
                    obtain ⟨va, vc, rfl, _⟩ := hI.opt
                    obtain ⟨xl, hxl⟩ : ∃ xl, X.length = xl := ⟨_, rfl⟩
                    have HXL := Lib.hid hxl
                    rw [hxl] at hI hll hZo ⊢
                    have hsz : w.heap.size ≤ wo.heap.size := ho.size
                    have HIo := Lib.hid hI
                    have HB4 := Lib.hid hB
                    have HO4 := Lib.hid ho
                    have HZ4 := Lib.hid hZo
                    clear hI hB hst hm ho hZo hX hxl
                    go_wp2_with (at_builtin; refine wpList_push rfl (.tmp 145) (.tmp 147) rfl wo w.heap.size _ X wo.heap.size (i : Int) xl HIo.out HXL.out (by omega) hsz rfl rfl ((Only.refl [] wo).alloc _) (World.cell?_alloc_at _ _ _ _ rfl) ?_; intro g cap w4 hI4 hO4 hK4)
                    have hI5 : Hid (Ints w4 w.heap.size (.slice (some ⟨g, 0, none⟩) (xl + 1) cap) (natL ((List.range (i + 1)).filter M))) := by
                      show Ints _ _ _ _
                      rw [HST.out]; exact hI4
                    have hlt := fun x hx => (HIo.out.own_lt x hx).1
                    have hzl : Z < wo.heap.size := by
                      have := HO3.out.size
                      have h2 := HZ.out
                      have h3 := HO0.out.size
                      have h4 := HZW.out
                      exact Nat.lt_of_lt_of_le (cell_lt b0) (Nat.le_refl _)
                    have hB5 : Hid (Bools w4 Z n M) := HB4.out.only hO4 HZ4.out
                    have hZ5 : Hid (Z ∉ own (.slice (some ⟨g, 0, none⟩) (xl + 1) cap)) := fun hx => by
                      obtain rfl : Z = g := by simpa [own, Value.ownBlock] using hx
                      rcases hK4 with h | h
                      · exact HZ4.out h
                      · omega
                    have hO5 : Hid (Only [] w w4) := HO4.out.trans hO4 (fun x hx hl => by have := hlt x hx; omega)
                    clear hI4 hO4 hK4 hlt hzl
                    go_wp2_with fail
                    go_roundw
                    case rel => exact ⟨i + 1, by omega, by go_num, hI5.out, hB5.out, hZ5.out, hO5.out⟩
                    case measure => (simp [intOf]; try omega)
                · obtain rfl : i = n := by omega
                  rw [HREM.out] at hI
                  have HIo := Lib.hid hI
                  have HO4 := Lib.hid ho
                  clear hI hB hZo ho
                  go_wp2
                  go_ret
                  exact ⟨_, rfl, HIo.out, HO4.out⟩

end Go.Proofs.YtocpmncedlenbaaGreatDoor
