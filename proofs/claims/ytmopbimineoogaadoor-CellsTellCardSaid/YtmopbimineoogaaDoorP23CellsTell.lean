/-
  Contracts of yardref2: Op, Cell, size, Do.
-/
import Derived.Test.YtmopbimineoogaaDoorP12CellsTell
namespace Go.Proofs.YtmopbimineoogaaDoor
open Go.RowKit Go.Deep

theorem ref_Op (o : Opn) (w : World) : Calls Tryd.prog 14 #[opV o] w fun e w' => e = .returned (.int .i64 (opFault o)) ∧ Only [] w w' := by
  obtain ⟨E, hE⟩ : ∃ E, opFault o = E := ⟨_, rfl⟩
  have HE := Lib.hid hE
  rw [hE]
  clear hE
  obtain ⟨wh, n⟩ := o
  have hb := Cells.new w #[.int .i64 wh, .int .i64 n] 48
  have hal := Lib.hid ((Only.refl [] w).alloc (.cells #[.int .i64 wh, .int .i64 n] 48))
  have c0 := hb.cell 0 _ rfl
  have c1 := hb.cell 1 _ rfl
  clear hb
  simp only [opV]
  by_cases h1 : 1 ≤ wh
  · by_cases h5 : wh ≤ 5
    · by_cases hn1 : -1000000000 ≤ n
      · by_cases hn2 : n ≤ 1000000000
        · have e : Hid (E = 0) := by show _ = _; rw [← HE.out]; exact if_pos ⟨h1, h5, hn1, hn2⟩
          go_enter Tryd.func14, Tryd.ntmps14
          go_wp2
          go_ret
          exact ⟨by rw [e.out]; rfl, hal.out⟩
        · have e : Hid (E = 1) := by show _ = _; rw [← HE.out]; exact if_neg (fun h => hn2 h.2.2.2)
          go_enter Tryd.func14, Tryd.ntmps14
          go_wp2
          go_ret
          exact ⟨by rw [e.out]; rfl, hal.out⟩
      · have e : Hid (E = 1) := by show _ = _; rw [← HE.out]; exact if_neg (fun h => hn1 h.2.2.1)
        go_enter Tryd.func14, Tryd.ntmps14
        go_wp2
        go_ret
        exact ⟨by rw [e.out]; rfl, hal.out⟩
    · have e : Hid (E = 1) := by show _ = _; rw [← HE.out]; exact if_neg (fun h => h5 h.2.1)
      go_enter Tryd.func14, Tryd.ntmps14
      go_wp2
      go_ret
      exact ⟨by rw [e.out]; rfl, hal.out⟩
  · have e : Hid (E = 1) := by show _ = _; rw [← HE.out]; exact if_neg (fun h => h1 h.1)
    go_enter Tryd.func14, Tryd.ntmps14
    go_wp2
    go_ret
    exact ⟨by rw [e.out]; rfl, hal.out⟩

theorem ref_Cell (c : Ce) (w : World) : Calls Tryd.prog 15 #[ceV c] w fun e w' => e = .returned (.int .i64 (ceFault c)) ∧ Only [] w w' := by
  obtain ⟨E, hE⟩ : ∃ E, ceFault c = E := ⟨_, rfl⟩
  have HE := Lib.hid hE
  rw [hE]
  clear hE
  obtain ⟨n, b⟩ := c
  have hb := Cells.new w #[.int .i64 n, .bool b] 54
  have hal := Lib.hid ((Only.refl [] w).alloc (.cells #[.int .i64 n, .bool b] 54))
  have c0 := hb.cell 0 _ rfl
  have c1 := hb.cell 1 _ rfl
  clear hb
  simp only [ceV]
  by_cases hn1 : -1000000000 ≤ n
  · by_cases hn2 : n ≤ 1000000000
    · cases b with
      | false =>
        have e : Hid (E = 0) := by show _ = _; rw [← HE.out]; exact if_pos ⟨⟨hn1, hn2⟩, fun h => by cases h⟩
        go_enter Tryd.func15, Tryd.ntmps15
        go_wp2
        go_ret
        exact ⟨by rw [e.out]; rfl, hal.out⟩
      | true =>
        by_cases hz : n = 0
        · have e : Hid (E = 0) := by show _ = _; rw [← HE.out]; exact if_pos ⟨⟨hn1, hn2⟩, fun _ => hz⟩
          subst hz
          go_enter Tryd.func15, Tryd.ntmps15
          go_wp2
          go_ret
          exact ⟨by rw [e.out]; rfl, hal.out⟩
        · have e : Hid (E = 1) := by show _ = _; rw [← HE.out]; exact if_neg (fun h => hz (h.2 rfl))
          have hz2 : (n != 0) = true := by simpa using hz
          go_enter Tryd.func15, Tryd.ntmps15
          go_wp2
          go_ret
          exact ⟨by rw [e.out]; rfl, hal.out⟩
    · have e : Hid (E = 1) := by show _ = _; rw [← HE.out]; exact if_neg (fun h => hn2 h.1.2)
      go_enter Tryd.func15, Tryd.ntmps15
      go_wp2
      go_ret
      exact ⟨by rw [e.out]; rfl, hal.out⟩
  · have e : Hid (E = 1) := by show _ = _; rw [← HE.out]; exact if_neg (fun h => hn1 h.1.1)
    go_enter Tryd.func15, Tryd.ntmps15
    go_wp2
    go_ret
    exact ⟨by rw [e.out]; rfl, hal.out⟩

theorem ref_size (n : Int) (w : World) (h1 : -1000000000 ≤ n) (h2 : n ≤ 1000000000) : Calls Tryd.prog 32 #[.int .i64 n] w fun e w' => e = .returned (.int .i64 (n.natAbs : Int)) ∧ w' = w := by
  by_cases h : n < 0
  · have e : Hid (-n = (n.natAbs : Int)) := by show _ = _; omega
    go_enter Tryd.func32, Tryd.ntmps32
    go_wp2
    go_ret
    exact ⟨by rw [← e.out]; rfl, rfl⟩
  · have e : Hid (n = (n.natAbs : Int)) := by show _ = _; omega
    go_enter Tryd.func32, Tryd.ntmps32
    go_wp2
    go_ret
    exact ⟨by rw [← e.out]; rfl, rfl⟩

theorem tdiv_abs (a b : Int) : a.tdiv b = if decide (a < 0) = decide (b < 0) then (((a.natAbs / b.natAbs : Nat) : Int)) else -(((a.natAbs / b.natAbs : Nat) : Int)) := by
  rcases Int.natAbs_eq a with ha | ha <;> rcases Int.natAbs_eq b with hb | hb <;> rw [ha, hb] <;> simp only [Int.natAbs_neg, Int.natAbs_natCast, Int.neg_tdiv, Int.tdiv_neg, Int.ofNat_tdiv]
  all_goals
    generalize a.natAbs = x
    generalize b.natAbs = y
    by_cases hx : x = 0 <;> by_cases hy : y = 0 <;> simp_all <;> omega

set_option maxRecDepth 100000 in
set_option maxHeartbeats 8000000 in
theorem ref_Do (o : Opn) (v : Value) (l : List Ce) (w : World) (hop : opOk o) (hv : KellsAt w v l) (hl : ∀ c ∈ l, ceOk c) (hlen : l.length ≤ 1000000000) :
    Calls Tryd.prog 16 #[opV o, v] w fun e w' => e = .returned (ceV (doC o l)) ∧ Only [] w w' := by
  obtain ⟨R, hR⟩ : ∃ R, doC o l = R := ⟨_, rfl⟩
  have HR := Lib.hid hR
  rw [hR]
  clear hR
  obtain ⟨wh, n⟩ := o
  obtain ⟨h1, h5, hin⟩ := hop
  simp only at h1 h5 hin
  obtain ⟨a, cap, rfl, ha⟩ := hv.opt
  have HA := Lib.hid ha
  have HL := Lib.hid hl
  have HLD := Lib.hid load_ce
  have HIN := Lib.hid hin
  have HFD := Lib.hid (fun i hi => firstC_drop n l i hi)
  have HD := Lib.hid (fun F (x : Int) i hi => foldC_drop F x l i hi)
  have HSZ := Lib.hid ref_size
  obtain ⟨m, hm⟩ : ∃ m, l.length = m := ⟨_, rfl⟩
  have HM := Lib.hid hm
  rw [hm] at HA hlen ⊢
  clear hv ha hl hm hin
  have hb := Cells.new w #[.int .i64 wh, .int .i64 n] 48
  have hal1 := (Only.refl [] w).alloc (.cells #[.int .i64 wh, .int .i64 n] 48)
  have hB := Cells.new (w.alloc (.cells #[.int .i64 wh, .int .i64 n] 48)) #[.int .i64 0, .bool false] 54
  have hb := hb.only ((Only.refl [] _).alloc (.cells #[.int .i64 0, .bool false] 54)) (by simp)
  have hal := hal1.alloc (.cells #[.int .i64 0, .bool false] 54)
  rw [World.size_alloc] at hB
  obtain ⟨w2, hw2⟩ : ∃ w2, (w.alloc (.cells #[.int .i64 wh, .int .i64 n] 48)).alloc (.cells #[.int .i64 0, .bool false] 54) = w2 := ⟨_, rfl⟩
  rw [hw2] at hb hB hal
  have cb := hb.cell 1 _ rfl
  have cb0 := hb.cell 0 _ rfl
  simp only [opV]
  go_enter Tryd.func16, Tryd.ntmps16
  clear hal1
  have hcase : wh = 1 ∨ wh = 2 ∨ wh = 3 ∨ wh = 4 ∨ wh = 5 := by omega
  rcases hcase with rfl | rfl | rfl | rfl | rfl
  · obtain ⟨R1, hR1⟩ : ∃ R1, foldC (fun a b => a + b) n l = R1 := ⟨_, rfl⟩
    have HR1 := Lib.hid hR1
    have hRB : Hid (R = R1) := by show _ = _; rw [← HR.out, ← hR1]; rfl
    clear hR1
    go_wp2_with fail
    go_loopw [6, 7] (fun vn vi wr => ∃ (i : Nat) (x : Int), i ≤ m ∧ vn = .int .i64 x ∧ vi = .int .i64 i ∧ inV x ∧ R1 = foldC (fun a b => a + b) x (l.drop i) ∧ Only [] w2 wr) (fun _ vi _ => m - (intOf vi).toNat)
    case atStart => exact ⟨0, n, Nat.zero_le _, rfl, rfl, HIN.out, HR1.out.symm, Only.refl _ _⟩
    case round =>
      obtain ⟨i, x, hi, rfl, rfl, hx, hRi, ho⟩ := hrel
      have HX := Lib.hid hx
      have HRI := Lib.hid hRi
      have hB3 := hB.only ho (by simp)
      have hb3 := hb.only ho (by simp)
      have hoo := hal.trans ho (by simp)
      have b0 := hB3.cell 0 _ rfl
      have b1 := hB3.cell 1 _ rfl
      have f0 := (hB3 0 _ rfl).2
      have f1 := (hB3 1 _ rfl).2
      have q0 := hb3.cell 0 _ rfl
      have q1 := hb3.cell 1 _ rfl
      clear hRi hx
      by_cases him : i < m
      · have hil : i < l.length := by rw [HM.out]; exact him
        have hd := HD.out (fun a b => a + b) x i hil
        have hok := HL.out _ (clAt_mem hil)
        obtain ⟨b, off, rfl, k0, k1⟩ := HA.out i him
        have c0 := (hoo.cell (p := ⟨b, _, none⟩) (cell_lt k0) (by simp)).trans k0
        have c1 := (hoo.cell (p := ⟨b, _, none⟩) (cell_lt k1) (by simp)).trans k1
        obtain ⟨c, hc⟩ : ∃ c, clAt l i = c := ⟨_, rfl⟩
        rw [hc] at hd hok c0 c1
        obtain ⟨cn, cb⟩ := c
        simp only at c0 c1 hd
        have HDD := Lib.hid hd
        have hcn := hok.1
        have HCN := Lib.hid hcn
        simp only at hcn
        clear hd hok hc k0 k1
        cases cb with
        | true =>
          have hR2 : Hid (R1 = ceBad) := by show _ = _; rw [HRI.out, HDD.out, if_pos rfl]
          have hR3 : Hid (R = ceBad) := by show _ = _; rw [hRB.out, hR2.out]
          obtain ⟨e1, e2⟩ := endB hB3 (Nat.le_succ _) hoo (.int .i64 0) (.bool true)
          have HE1 := Lib.hid e1
          have HE2 := Lib.hid e2
          clear e1 e2 ho hoo hB3 hb3
          go_wp2
          refine bodyPost_ret (results_cell1 rfl _ _ _ _ rfl (HLD.out _ _ _ _ HE1.out)) rfl ?_
          exact ⟨by rw [hR3.out]; rfl, HE2.out⟩
        | false =>
          obtain ⟨y, hy⟩ : ∃ y, x + cn = y := ⟨_, rfl⟩
          have HY := Lib.hid hy
          have hsum : IntKind.i64.wrap (x + cn) = x + cn := IntWalk.i64_in _ (by have := HX.out; unfold inV at this hcn; omega)
          have hex : x + cn = y := hy
          have hyw : wrap64 y = y := by rw [← hex, ← IntWalk.i64_left]; exact hsum
          clear hy
          by_cases hyn : inV y
          · have hR2 : Hid (R1 = foldC (fun a b => a + b) y (l.drop (i + 1))) := by show _ = _; rw [HRI.out, HDD.out, if_neg (by simp)]; show (if inV (x + cn) then foldC (fun a b => a + b) (x + cn) (l.drop (i + 1)) else ceBad) = _; rw [HY.out, if_pos hyn]
            have HYN := Lib.hid hyn
            unfold inV at hyn
            obtain ⟨y1, y2⟩ := hyn
            have HO := Lib.hid ho
            clear ho hoo hB3 hb3
            go_wp2
            go_roundw
            case rel => exact ⟨i + 1, y, by omega, rfl, by go_num, HYN.out, hR2.out, HO.out⟩
            case measure => (simp [intOf]; try omega)
          · have hR2 : Hid (R1 = ceBad) := by show _ = _; rw [HRI.out, HDD.out, if_neg (by simp)]; show (if inV (x + cn) then foldC (fun a b => a + b) (x + cn) (l.drop (i + 1)) else ceBad) = _; rw [HY.out, if_neg hyn]
            have hR3 : Hid (R = ceBad) := by show _ = _; rw [hRB.out, hR2.out]
            have hy2 : y < -1000000000 ∨ (-1000000000 ≤ y ∧ 1000000000 < y) := by unfold inV at hyn; omega
            clear hyn
            obtain ⟨e1, e2⟩ := endB hB3 (Nat.le_succ _) hoo (.int .i64 0) (.bool true)
            have HE1 := Lib.hid e1
            have HE2 := Lib.hid e2
            clear e1 e2 ho hoo hB3 hb3
            rcases hy2 with hy2 | ⟨hy2, hy3⟩
            · go_wp2
              refine bodyPost_ret (results_cell1 rfl _ _ _ _ rfl (HLD.out _ _ _ _ HE1.out)) rfl ?_
              exact ⟨by rw [hR3.out]; rfl, HE2.out⟩
            · go_wp2
              refine bodyPost_ret (results_cell1 rfl _ _ _ _ rfl (HLD.out _ _ _ _ HE1.out)) rfl ?_
              exact ⟨by rw [hR3.out]; rfl, HE2.out⟩
      · obtain rfl : i = m := by omega
        have hR2 : Hid (R1 = ⟨x, false⟩) := by show _ = _; rw [HRI.out, List.drop_of_length_le (by rw [HM.out]; exact Nat.le_refl _)]; rfl
        have hR3 : Hid (R = ⟨x, false⟩) := by show _ = _; rw [hRB.out, hR2.out]
        obtain ⟨e1, e2⟩ := endB hB3 (Nat.le_succ _) hoo (.int .i64 x) (.bool false)
        have HE1 := Lib.hid e1
        have HE2 := Lib.hid e2
        clear e1 e2 ho hoo hB3 hb3
        go_wp2
        refine bodyPost_ret (results_cell1 rfl _ _ _ _ rfl (HLD.out _ _ _ _ HE1.out)) rfl ?_
        exact ⟨by rw [hR3.out]; rfl, HE2.out⟩
  · obtain ⟨R1, hR1⟩ : ∃ R1, foldC (fun a b => max a b) n l = R1 := ⟨_, rfl⟩
    have HR1 := Lib.hid hR1
    have hRB : Hid (R = R1) := by show _ = _; rw [← HR.out, ← hR1]; rfl
    clear hR1
    go_wp2_with fail
    go_loopw [6, 7] (fun vn vi wr => ∃ (i : Nat) (x : Int), i ≤ m ∧ vn = .int .i64 x ∧ vi = .int .i64 i ∧ inV x ∧ R1 = foldC (fun a b => max a b) x (l.drop i) ∧ Only [] w2 wr) (fun _ vi _ => m - (intOf vi).toNat)
    case atStart => exact ⟨0, n, Nat.zero_le _, rfl, rfl, HIN.out, HR1.out.symm, Only.refl _ _⟩
    case round =>
      obtain ⟨i, x, hi, rfl, rfl, hx, hRi, ho⟩ := hrel
      have HX := Lib.hid hx
      have HRI := Lib.hid hRi
      have hB3 := hB.only ho (by simp)
      have hb3 := hb.only ho (by simp)
      have hoo := hal.trans ho (by simp)
      have b0 := hB3.cell 0 _ rfl
      have b1 := hB3.cell 1 _ rfl
      have f0 := (hB3 0 _ rfl).2
      have f1 := (hB3 1 _ rfl).2
      have q0 := hb3.cell 0 _ rfl
      have q1 := hb3.cell 1 _ rfl
      clear hRi hx
      by_cases him : i < m
      · have hil : i < l.length := by rw [HM.out]; exact him
        have hd := HD.out (fun a b => max a b) x i hil
        have hok := HL.out _ (clAt_mem hil)
        obtain ⟨b, off, rfl, k0, k1⟩ := HA.out i him
        have c0 := (hoo.cell (p := ⟨b, _, none⟩) (cell_lt k0) (by simp)).trans k0
        have c1 := (hoo.cell (p := ⟨b, _, none⟩) (cell_lt k1) (by simp)).trans k1
        obtain ⟨c, hc⟩ : ∃ c, clAt l i = c := ⟨_, rfl⟩
        rw [hc] at hd hok c0 c1
        obtain ⟨cn, cb⟩ := c
        simp only at c0 c1 hd
        have HDD := Lib.hid hd
        have hcn := hok.1
        have HCN := Lib.hid hcn
        simp only at hcn
        clear hd hok hc k0 k1
        cases cb with
        | true =>
          have hR2 : Hid (R1 = ceBad) := by show _ = _; rw [HRI.out, HDD.out, if_pos rfl]
          have hR3 : Hid (R = ceBad) := by show _ = _; rw [hRB.out, hR2.out]
          obtain ⟨e1, e2⟩ := endB hB3 (Nat.le_succ _) hoo (.int .i64 0) (.bool true)
          have HE1 := Lib.hid e1
          have HE2 := Lib.hid e2
          clear e1 e2 ho hoo hB3 hb3
          go_wp2
          refine bodyPost_ret (results_cell1 rfl _ _ _ _ rfl (HLD.out _ _ _ _ HE1.out)) rfl ?_
          exact ⟨by rw [hR3.out]; rfl, HE2.out⟩
        | false =>
          obtain ⟨y, hy⟩ : ∃ y, max x cn = y := ⟨_, rfl⟩
          have HY := Lib.hid hy
          by_cases hyn : inV y
          · have hR2 : Hid (R1 = foldC (fun a b => max a b) y (l.drop (i + 1))) := by show _ = _; rw [HRI.out, HDD.out, if_neg (by simp)]; show (if inV (max x cn) then foldC (fun a b => max a b) (max x cn) (l.drop (i + 1)) else ceBad) = _; rw [HY.out, if_pos hyn]
            have HYN := Lib.hid hyn
            unfold inV at hyn
            obtain ⟨y1, y2⟩ := hyn
            have HO := Lib.hid ho
            clear ho hoo hB3 hb3
            by_cases hgt : x < cn
            · obtain rfl : cn = y := by have hy : max x cn = y := hy; omega
              clear hy
              go_wp2
              go_roundw
              case rel => exact ⟨i + 1, _, by omega, rfl, by go_num, HYN.out, hR2.out, HO.out⟩
              case measure => (simp [intOf]; try omega)
            · obtain rfl : x = y := by have hy : max x cn = y := hy; omega
              clear hy
              go_wp2
              go_roundw
              case rel => exact ⟨i + 1, _, by omega, rfl, by go_num, HYN.out, hR2.out, HO.out⟩
              case measure => (simp [intOf]; try omega)
          · have hR2 : Hid (R1 = ceBad) := by show _ = _; rw [HRI.out, HDD.out, if_neg (by simp)]; show (if inV (max x cn) then foldC (fun a b => max a b) (max x cn) (l.drop (i + 1)) else ceBad) = _; rw [HY.out, if_neg hyn]
            have hR3 : Hid (R = ceBad) := by show _ = _; rw [hRB.out, hR2.out]
            have hy2 : y < -1000000000 ∨ (-1000000000 ≤ y ∧ 1000000000 < y) := by unfold inV at hyn; omega
            clear hyn
            obtain ⟨e1, e2⟩ := endB hB3 (Nat.le_succ _) hoo (.int .i64 0) (.bool true)
            have HE1 := Lib.hid e1
            have HE2 := Lib.hid e2
            clear e1 e2 ho hoo hB3 hb3
            exfalso
            have hy : max x cn = y := hy
            have h1 := HX.out
            have h2 := HCN.out
            unfold inV at h1 h2
            simp only at h2
            omega
      · obtain rfl : i = m := by omega
        have hR2 : Hid (R1 = ⟨x, false⟩) := by show _ = _; rw [HRI.out, List.drop_of_length_le (by rw [HM.out]; exact Nat.le_refl _)]; rfl
        have hR3 : Hid (R = ⟨x, false⟩) := by show _ = _; rw [hRB.out, hR2.out]
        obtain ⟨e1, e2⟩ := endB hB3 (Nat.le_succ _) hoo (.int .i64 x) (.bool false)
        have HE1 := Lib.hid e1
        have HE2 := Lib.hid e2
        clear e1 e2 ho hoo hB3 hb3
        go_wp2
        refine bodyPost_ret (results_cell1 rfl _ _ _ _ rfl (HLD.out _ _ _ _ HE1.out)) rfl ?_
        exact ⟨by rw [hR3.out]; rfl, HE2.out⟩
  · obtain ⟨R1, hR1⟩ : ∃ R1, foldC (fun a b => a * b) n l = R1 := ⟨_, rfl⟩
    have HR1 := Lib.hid hR1
    have hRB : Hid (R = R1) := by show _ = _; rw [← HR.out, ← hR1]; rfl
    clear hR1
    go_wp2_with fail
    go_loopw [6, 7] (fun vn vi wr => ∃ (i : Nat) (x : Int), i ≤ m ∧ vn = .int .i64 x ∧ vi = .int .i64 i ∧ inV x ∧ R1 = foldC (fun a b => a * b) x (l.drop i) ∧ Only [] w2 wr) (fun _ vi _ => m - (intOf vi).toNat)
    case atStart => exact ⟨0, n, Nat.zero_le _, rfl, rfl, HIN.out, HR1.out.symm, Only.refl _ _⟩
    case round =>
      obtain ⟨i, x, hi, rfl, rfl, hx, hRi, ho⟩ := hrel
      have HX := Lib.hid hx
      have HRI := Lib.hid hRi
      have hB3 := hB.only ho (by simp)
      have hb3 := hb.only ho (by simp)
      have hoo := hal.trans ho (by simp)
      have b0 := hB3.cell 0 _ rfl
      have b1 := hB3.cell 1 _ rfl
      have f0 := (hB3 0 _ rfl).2
      have f1 := (hB3 1 _ rfl).2
      have q0 := hb3.cell 0 _ rfl
      have q1 := hb3.cell 1 _ rfl
      clear hRi hx
      by_cases him : i < m
      · have hil : i < l.length := by rw [HM.out]; exact him
        have hd := HD.out (fun a b => a * b) x i hil
        have hok := HL.out _ (clAt_mem hil)
        obtain ⟨b, off, rfl, k0, k1⟩ := HA.out i him
        have c0 := (hoo.cell (p := ⟨b, _, none⟩) (cell_lt k0) (by simp)).trans k0
        have c1 := (hoo.cell (p := ⟨b, _, none⟩) (cell_lt k1) (by simp)).trans k1
        obtain ⟨c, hc⟩ : ∃ c, clAt l i = c := ⟨_, rfl⟩
        rw [hc] at hd hok c0 c1
        obtain ⟨cn, cb⟩ := c
        simp only at c0 c1 hd
        have HDD := Lib.hid hd
        have hcn := hok.1
        have HCN := Lib.hid hcn
        simp only at hcn
        clear hd hok hc k0 k1
        cases cb with
        | true =>
          have hR2 : Hid (R1 = ceBad) := by show _ = _; rw [HRI.out, HDD.out, if_pos rfl]
          have hR3 : Hid (R = ceBad) := by show _ = _; rw [hRB.out, hR2.out]
          obtain ⟨e1, e2⟩ := endB hB3 (Nat.le_succ _) hoo (.int .i64 0) (.bool true)
          have HE1 := Lib.hid e1
          have HE2 := Lib.hid e2
          clear e1 e2 ho hoo hB3 hb3
          go_wp2
          refine bodyPost_ret (results_cell1 rfl _ _ _ _ rfl (HLD.out _ _ _ _ HE1.out)) rfl ?_
          exact ⟨by rw [hR3.out]; rfl, HE2.out⟩
        | false =>
          obtain ⟨y, hy⟩ : ∃ y, x * cn = y := ⟨_, rfl⟩
          have HY := Lib.hid hy
          have hmb := mul_bd x cn HX.out HCN.out
          have hsum : IntKind.i64.wrap (x * cn) = x * cn := IntWalk.i64_in _ (by omega)
          have hex : x * cn = y := hy
          have hyw : wrap64 y = y := by rw [← hex, ← IntWalk.i64_left]; exact hsum
          clear hy hmb
          by_cases hyn : inV y
          · have hR2 : Hid (R1 = foldC (fun a b => a * b) y (l.drop (i + 1))) := by show _ = _; rw [HRI.out, HDD.out, if_neg (by simp)]; show (if inV (x * cn) then foldC (fun a b => a * b) (x * cn) (l.drop (i + 1)) else ceBad) = _; rw [HY.out, if_pos hyn]
            have HYN := Lib.hid hyn
            unfold inV at hyn
            obtain ⟨y1, y2⟩ := hyn
            have HO := Lib.hid ho
            clear ho hoo hB3 hb3
            go_wp2
            go_roundw
            case rel => exact ⟨i + 1, y, by omega, rfl, by go_num, HYN.out, hR2.out, HO.out⟩
            case measure => (simp [intOf]; try omega)
          · have hR2 : Hid (R1 = ceBad) := by show _ = _; rw [HRI.out, HDD.out, if_neg (by simp)]; show (if inV (x * cn) then foldC (fun a b => a * b) (x * cn) (l.drop (i + 1)) else ceBad) = _; rw [HY.out, if_neg hyn]
            have hR3 : Hid (R = ceBad) := by show _ = _; rw [hRB.out, hR2.out]
            have hy2 : y < -1000000000 ∨ (-1000000000 ≤ y ∧ 1000000000 < y) := by unfold inV at hyn; omega
            clear hyn
            obtain ⟨e1, e2⟩ := endB hB3 (Nat.le_succ _) hoo (.int .i64 0) (.bool true)
            have HE1 := Lib.hid e1
            have HE2 := Lib.hid e2
            clear e1 e2 ho hoo hB3 hb3
            rcases hy2 with hy2 | ⟨hy2, hy3⟩
            · go_wp2
              refine bodyPost_ret (results_cell1 rfl _ _ _ _ rfl (HLD.out _ _ _ _ HE1.out)) rfl ?_
              exact ⟨by rw [hR3.out]; rfl, HE2.out⟩
            · go_wp2
              refine bodyPost_ret (results_cell1 rfl _ _ _ _ rfl (HLD.out _ _ _ _ HE1.out)) rfl ?_
              exact ⟨by rw [hR3.out]; rfl, HE2.out⟩
      · obtain rfl : i = m := by omega
        have hR2 : Hid (R1 = ⟨x, false⟩) := by show _ = _; rw [HRI.out, List.drop_of_length_le (by rw [HM.out]; exact Nat.le_refl _)]; rfl
        have hR3 : Hid (R = ⟨x, false⟩) := by show _ = _; rw [hRB.out, hR2.out]
        obtain ⟨e1, e2⟩ := endB hB3 (Nat.le_succ _) hoo (.int .i64 x) (.bool false)
        have HE1 := Lib.hid e1
        have HE2 := Lib.hid e2
        clear e1 e2 ho hoo hB3 hb3
        go_wp2
        refine bodyPost_ret (results_cell1 rfl _ _ _ _ rfl (HLD.out _ _ _ _ HE1.out)) rfl ?_
        exact ⟨by rw [hR3.out]; rfl, HE2.out⟩
  · obtain ⟨R1, hR1⟩ : ∃ R1, foldC (fun a b => a + b) 0 l = R1 := ⟨_, rfl⟩
    have HR1 := Lib.hid hR1
    have hRB : Hid (R = splitC n R1) := by show _ = _; rw [← HR.out, ← hR1]; rfl
    clear hR1
    go_wp2_with fail
    go_loopw [6, 7] (fun vn vi wr => ∃ (i : Nat) (x : Int), i ≤ m ∧ vn = .int .i64 x ∧ vi = .int .i64 i ∧ inV x ∧ R1 = foldC (fun a b => a + b) x (l.drop i) ∧ Only [] w2 wr) (fun _ vi _ => m - (intOf vi).toNat)
    case atStart => exact ⟨0, 0, Nat.zero_le _, rfl, rfl, (by unfold inV; omega), HR1.out.symm, Only.refl _ _⟩
    case round =>
      obtain ⟨i, x, hi, rfl, rfl, hx, hRi, ho⟩ := hrel
      have HX := Lib.hid hx
      have HRI := Lib.hid hRi
      have hB3 := hB.only ho (by simp)
      have hb3 := hb.only ho (by simp)
      have hoo := hal.trans ho (by simp)
      have b0 := hB3.cell 0 _ rfl
      have b1 := hB3.cell 1 _ rfl
      have f0 := (hB3 0 _ rfl).2
      have f1 := (hB3 1 _ rfl).2
      have q0 := hb3.cell 0 _ rfl
      have q1 := hb3.cell 1 _ rfl
      clear hRi hx
      by_cases him : i < m
      · have hil : i < l.length := by rw [HM.out]; exact him
        have hd := HD.out (fun a b => a + b) x i hil
        have hok := HL.out _ (clAt_mem hil)
        obtain ⟨b, off, rfl, k0, k1⟩ := HA.out i him
        have c0 := (hoo.cell (p := ⟨b, _, none⟩) (cell_lt k0) (by simp)).trans k0
        have c1 := (hoo.cell (p := ⟨b, _, none⟩) (cell_lt k1) (by simp)).trans k1
        obtain ⟨c, hc⟩ : ∃ c, clAt l i = c := ⟨_, rfl⟩
        rw [hc] at hd hok c0 c1
        obtain ⟨cn, cb⟩ := c
        simp only at c0 c1 hd
        have HDD := Lib.hid hd
        have hcn := hok.1
        have HCN := Lib.hid hcn
        simp only at hcn
        clear hd hok hc k0 k1
        cases cb with
        | true =>
          have hR2 : Hid (R1 = ceBad) := by show _ = _; rw [HRI.out, HDD.out, if_pos rfl]
          have hR3 : Hid (R = ceBad) := by show _ = _; rw [hRB.out, hR2.out]; rfl
          obtain ⟨e1, e2⟩ := endB hB3 (Nat.le_succ _) hoo (.int .i64 0) (.bool true)
          have HE1 := Lib.hid e1
          have HE2 := Lib.hid e2
          clear e1 e2 ho hoo hB3 hb3
          go_wp2
          refine bodyPost_ret (results_cell1 rfl _ _ _ _ rfl (HLD.out _ _ _ _ HE1.out)) rfl ?_
          exact ⟨by rw [hR3.out]; rfl, HE2.out⟩
        | false =>
          obtain ⟨y, hy⟩ : ∃ y, x + cn = y := ⟨_, rfl⟩
          have HY := Lib.hid hy
          have hsum : IntKind.i64.wrap (x + cn) = x + cn := IntWalk.i64_in _ (by have := HX.out; unfold inV at this hcn; omega)
          have hex : x + cn = y := hy
          have hyw : wrap64 y = y := by rw [← hex, ← IntWalk.i64_left]; exact hsum
          clear hy
          by_cases hyn : inV y
          · have hR2 : Hid (R1 = foldC (fun a b => a + b) y (l.drop (i + 1))) := by show _ = _; rw [HRI.out, HDD.out, if_neg (by simp)]; show (if inV (x + cn) then foldC (fun a b => a + b) (x + cn) (l.drop (i + 1)) else ceBad) = _; rw [HY.out, if_pos hyn]
            have HYN := Lib.hid hyn
            unfold inV at hyn
            obtain ⟨y1, y2⟩ := hyn
            have HO := Lib.hid ho
            clear ho hoo hB3 hb3
            go_wp2
            go_roundw
            case rel => exact ⟨i + 1, y, by omega, rfl, by go_num, HYN.out, hR2.out, HO.out⟩
            case measure => (simp [intOf]; try omega)
          · have hR2 : Hid (R1 = ceBad) := by show _ = _; rw [HRI.out, HDD.out, if_neg (by simp)]; show (if inV (x + cn) then foldC (fun a b => a + b) (x + cn) (l.drop (i + 1)) else ceBad) = _; rw [HY.out, if_neg hyn]
            have hR3 : Hid (R = ceBad) := by show _ = _; rw [hRB.out, hR2.out]; rfl
            have hy2 : y < -1000000000 ∨ (-1000000000 ≤ y ∧ 1000000000 < y) := by unfold inV at hyn; omega
            clear hyn
            obtain ⟨e1, e2⟩ := endB hB3 (Nat.le_succ _) hoo (.int .i64 0) (.bool true)
            have HE1 := Lib.hid e1
            have HE2 := Lib.hid e2
            clear e1 e2 ho hoo hB3 hb3
            rcases hy2 with hy2 | ⟨hy2, hy3⟩
            · go_wp2
              refine bodyPost_ret (results_cell1 rfl _ _ _ _ rfl (HLD.out _ _ _ _ HE1.out)) rfl ?_
              exact ⟨by rw [hR3.out]; rfl, HE2.out⟩
            · go_wp2
              refine bodyPost_ret (results_cell1 rfl _ _ _ _ rfl (HLD.out _ _ _ _ HE1.out)) rfl ?_
              exact ⟨by rw [hR3.out]; rfl, HE2.out⟩
      · obtain rfl : i = m := by omega
        have hR2 : Hid (R1 = ⟨x, false⟩) := by show _ = _; rw [HRI.out, List.drop_of_length_le (by rw [HM.out]; exact Nat.le_refl _)]; rfl
        obtain ⟨x1, x2⟩ := HX.out
        obtain ⟨n1, n2⟩ := HIN.out
        have hsz1 := HSZ.out n
        have hsz2 := HSZ.out x
        by_cases hx0 : x = 0
        · have hR3 : Hid (R = ceBad) := by show _ = _; rw [hRB.out, hR2.out]; unfold splitC; rw [if_pos (.inr hx0)]
          subst hx0
          clear hsz1 hsz2
          obtain ⟨e1, e2⟩ := endB hB3 (Nat.le_succ _) hoo (.int .i64 0) (.bool true)
          have HE1 := Lib.hid e1
          have HE2 := Lib.hid e2
          clear e1 e2 ho hoo hB3 hb3
          go_wp2
          refine bodyPost_ret (results_cell1 rfl _ _ _ _ rfl (HLD.out _ _ _ _ HE1.out)) rfl ?_
          exact ⟨by rw [hR3.out]; rfl, HE2.out⟩
        · have hR3 : Hid (R = ⟨n.tdiv x, false⟩) := by show _ = _; rw [hRB.out, hR2.out]; unfold splitC; rw [if_neg (by simp [hx0])]
          have htd := tdiv_abs n x
          obtain ⟨A, hA⟩ : ∃ A, n.natAbs = A := ⟨_, rfl⟩
          obtain ⟨B, hBB⟩ : ∃ B, x.natAbs = B := ⟨_, rfl⟩
          obtain ⟨D, hDD⟩ : ∃ D, A / B = D := ⟨_, rfl⟩
          have hAl : A ≤ 1000000000 := by omega
          have hB0 : B ≠ 0 := by omega
          have hDl : D ≤ 1000000000 := by rw [← hDD]; exact Nat.le_trans (Nat.div_le_self _ _) hAl
          rw [hA, hBB, hDD] at htd
          have HTD := Lib.hid htd
          clear htd
          rw [hA] at hsz1
          rw [hBB] at hsz2
          have HDD2 := Lib.hid hDD
          clear hDD
          have hqw : wrap64 (D : Int) = (D : Int) := by rw [← IntWalk.i64_left]; exact IntWalk.i64_in _ (by omega)
          have hqn : wrap64 (-(D : Int)) = -(D : Int) := by rw [← IntWalk.i64_left]; exact IntWalk.i64_in _ (by omega)
          have hbz : ((B : Int) == 0) = false := beq_false_of_ne (by omega)
          have hxz : (x == 0) = false := beq_false_of_ne hx0
          have hq : (A : Int).tdiv (B : Int) = (D : Int) := by rw [← HDD2.out]; exact (Int.ofNat_tdiv A B).symm
          have HR3 := Lib.hid (fun z (hz : n.tdiv x = z) => (hR3.out.trans (by rw [hz]) : R = ⟨z, false⟩))
          obtain ⟨e1, e2⟩ : (∀ z, Cells ((wr.setCell ⟨w.heap.size + 1, 0, none⟩ (.int .i64 z)).setCell ⟨w.heap.size + 1, 1, none⟩ (.bool false)) (w.heap.size + 1) [.int .i64 z, .bool false]) ∧ (∀ z, Only [] w ((wr.setCell ⟨w.heap.size + 1, 0, none⟩ (.int .i64 z)).setCell ⟨w.heap.size + 1, 1, none⟩ (.bool false))) := ⟨fun z => (endB hB3 (Nat.le_succ _) hoo (.int .i64 z) (.bool false)).1, fun z => (endB hB3 (Nat.le_succ _) hoo (.int .i64 z) (.bool false)).2⟩
          have HE1 := Lib.hid e1
          have HE2 := Lib.hid e2
          clear e1 e2 ho hoo hB3 hb3 hA hBB hR2 hR3
          by_cases hn0 : n < 0
          · by_cases hx1 : x < 0
            · have hd1 : decide (x < 0) = true := decide_eq_true hx1
              have hd2 : (!decide (x < 0)) = false := by rw [hd1]; rfl
              have hd3 : decide (n < 0) = true := decide_eq_true hn0
              go_wp2_with fail
              refine (hsz1 wr n1 n2).mono ?_
              rintro e w9 ⟨rfl, hw9⟩
              subst hw9
              go_wp2_with fail
              refine (hsz2 w9 x1 x2).mono ?_
              rintro e w8 ⟨rfl, hw8⟩
              subst hw8
              go_wp2
              refine bodyPost_ret (results_cell1 rfl _ _ _ _ rfl (HLD.out _ _ _ _ (HE1.out _))) rfl ?_
              first
                | exact ⟨by rw [HR3.out (D : Int) (by rw [HTD.out, hd1, hd3]; simp)]; rfl, HE2.out _⟩
                | exact ⟨by rw [HR3.out (-(D : Int)) (by rw [HTD.out, hd1, hd3]; simp)]; rfl, HE2.out _⟩
            · have hd1 : decide (x < 0) = false := decide_eq_false hx1
              have hd2 : (!decide (x < 0)) = true := by rw [hd1]; rfl
              have hd3 : decide (n < 0) = true := decide_eq_true hn0
              go_wp2_with fail
              refine (hsz1 wr n1 n2).mono ?_
              rintro e w9 ⟨rfl, hw9⟩
              subst hw9
              go_wp2_with fail
              refine (hsz2 w9 x1 x2).mono ?_
              rintro e w8 ⟨rfl, hw8⟩
              subst hw8
              go_wp2
              refine bodyPost_ret (results_cell1 rfl _ _ _ _ rfl (HLD.out _ _ _ _ (HE1.out _))) rfl ?_
              first
                | exact ⟨by rw [HR3.out (D : Int) (by rw [HTD.out, hd1, hd3]; simp)]; rfl, HE2.out _⟩
                | exact ⟨by rw [HR3.out (-(D : Int)) (by rw [HTD.out, hd1, hd3]; simp)]; rfl, HE2.out _⟩
          · by_cases hx1 : x < 0
            · have hd1 : decide (x < 0) = true := decide_eq_true hx1
              have hd2 : (!decide (x < 0)) = false := by rw [hd1]; rfl
              have hd3 : decide (n < 0) = false := decide_eq_false hn0
              go_wp2_with fail
              refine (hsz1 wr n1 n2).mono ?_
              rintro e w9 ⟨rfl, hw9⟩
              subst hw9
              go_wp2_with fail
              refine (hsz2 w9 x1 x2).mono ?_
              rintro e w8 ⟨rfl, hw8⟩
              subst hw8
              go_wp2
              refine bodyPost_ret (results_cell1 rfl _ _ _ _ rfl (HLD.out _ _ _ _ (HE1.out _))) rfl ?_
              first
                | exact ⟨by rw [HR3.out (D : Int) (by rw [HTD.out, hd1, hd3]; simp)]; rfl, HE2.out _⟩
                | exact ⟨by rw [HR3.out (-(D : Int)) (by rw [HTD.out, hd1, hd3]; simp)]; rfl, HE2.out _⟩
            · have hd1 : decide (x < 0) = false := decide_eq_false hx1
              have hd2 : (!decide (x < 0)) = true := by rw [hd1]; rfl
              have hd3 : decide (n < 0) = false := decide_eq_false hn0
              go_wp2_with fail
              refine (hsz1 wr n1 n2).mono ?_
              rintro e w9 ⟨rfl, hw9⟩
              subst hw9
              go_wp2_with fail
              refine (hsz2 w9 x1 x2).mono ?_
              rintro e w8 ⟨rfl, hw8⟩
              subst hw8
              go_wp2
              refine bodyPost_ret (results_cell1 rfl _ _ _ _ rfl (HLD.out _ _ _ _ (HE1.out _))) rfl ?_
              first
                | exact ⟨by rw [HR3.out (D : Int) (by rw [HTD.out, hd1, hd3]; simp)]; rfl, HE2.out _⟩
                | exact ⟨by rw [HR3.out (-(D : Int)) (by rw [HTD.out, hd1, hd3]; simp)]; rfl, HE2.out _⟩
  · have hRB : Hid (R = firstC n l) := by show _ = _; rw [← HR.out]; rfl
    go_wp2_with fail
    go_loopw [5] (fun vi wr => ∃ i : Nat, i ≤ m ∧ vi = .int .i64 i ∧ R = firstC n (l.drop i) ∧ Only [] w2 wr) (fun vi _ => m - (intOf vi).toNat)
    case atStart => exact ⟨0, Nat.zero_le _, rfl, hRB.out, Only.refl _ _⟩
    case round =>
      obtain ⟨i, hi, rfl, hRi, ho⟩ := hrel
      have HRI := Lib.hid hRi
      have hB3 := hB.only ho (by simp)
      have hb3 := hb.only ho (by simp)
      have hoo := hal.trans ho (by simp)
      have b0 := hB3.cell 0 _ rfl
      have b1 := hB3.cell 1 _ rfl
      have f0 := (hB3 0 _ rfl).2
      have f1 := (hB3 1 _ rfl).2
      have q1 := hb3.cell 1 _ rfl
      clear hRi
      by_cases him : i < m
      · have hil : i < l.length := by rw [HM.out]; exact him
        have hd := HFD.out i hil
        obtain ⟨b, off, rfl, k0, k1⟩ := HA.out i him
        have c0 := (hoo.cell (p := ⟨b, _, none⟩) (cell_lt k0) (by simp)).trans k0
        have c1 := (hoo.cell (p := ⟨b, _, none⟩) (cell_lt k1) (by simp)).trans k1
        obtain ⟨c, hc⟩ : ∃ c, clAt l i = c := ⟨_, rfl⟩
        rw [hc] at hd c0 c1
        obtain ⟨cn, cb⟩ := c
        simp only at c0 c1 hd
        have HDD := Lib.hid hd
        clear hd hc k0 k1
        cases cb with
        | true =>
          have hR2 : Hid (R = firstC n (l.drop (i + 1))) := by show _ = _; rw [HRI.out, HDD.out, if_pos rfl]
          have HO := Lib.hid ho
          clear ho hoo hB3 hb3
          go_wp2
          go_roundw
          case rel => exact ⟨i + 1, by omega, by go_num, hR2.out, HO.out⟩
          case measure => (simp [intOf]; try omega)
        | false =>
          have hR3 : Hid (R = ⟨cn, false⟩) := by show _ = _; rw [HRI.out, HDD.out, if_neg (by simp)]
          obtain ⟨e1, e2⟩ := endB hB3 (Nat.le_succ _) hoo (.int .i64 cn) (.bool false)
          have HE1 := Lib.hid e1
          have HE2 := Lib.hid e2
          clear e1 e2 ho hoo hB3 hb3
          go_wp2
          refine bodyPost_ret (results_cell1 rfl _ _ _ _ rfl (HLD.out _ _ _ _ HE1.out)) rfl ?_
          exact ⟨by rw [hR3.out]; rfl, HE2.out⟩
      · obtain rfl : i = m := by omega
        have hR3 : Hid (R = ⟨n, false⟩) := by show _ = _; rw [HRI.out, List.drop_of_length_le (by rw [HM.out]; exact Nat.le_refl _)]; rfl
        obtain ⟨e1, e2⟩ := endB hB3 (Nat.le_succ _) hoo (.int .i64 n) (.bool false)
        have HE1 := Lib.hid e1
        have HE2 := Lib.hid e2
        clear e1 e2 ho hoo hB3 hb3
        go_wp2
        refine bodyPost_ret (results_cell1 rfl _ _ _ _ rfl (HLD.out _ _ _ _ HE1.out)) rfl ?_
        exact ⟨by rw [hR3.out]; rfl, HE2.out⟩

end Go.Proofs.YtmopbimineoogaaDoor
