/-
  The statement CellsTell: what any op of any cells comes to, of all tasks of any plan, and along any order. No condition but the listed variable's.
-/
import Derived.Test.YtmopbimineoogaaDoorP1CellsTell
import Derived.Test.YtmopbimineoogaaDoorP2CellsTell
import Derived.Test.YtmopbimineoogaaDoorP19CellsTell
import Derived.Test.YtmopbimineoogaaDoorP20CellsTell
import Derived.Test.YtmopbimineoogaaDoorP22CellsTell
import Derived.Test.YtmopbimineoogaaDoorP27CellsTell
import Derived.Test.YtmopbimineoogaaDoorP28CellsTell
import Derived.Test.YtmopbimineoogaaDoorP32CellsTell
import Derived.Test.YtmopbimineoogaaDoorP34CellsTell
namespace Go.Proofs.YtmopbimineoogaaDoor.cellsTell
open Go.ChangeShapes Go.WideShapes Go.ChangeAt Go.RowKit
open Go.ChangeMaps (open_string shut_string)
set_option linter.unusedVariables false


/-- The first fault of an op of cells, so far as its length tells. -/
def preFault (o : Opn) (n : Nat) : Int := if opFault o = 0 ∧ 30 < n then 4 else opFault o

theorem doFault_zero {o : Opn} {l : List Ce} (h : doFault o l = 0) : opOk o ∧ l.length ≤ 30 ∧ ∀ c ∈ l, ceOk c := by
  by_cases h1 : opOk o
  · by_cases h2 : 30 < l.length
    · rw [doFault_len h1 h2] at h; cases h
    · by_cases h3 : ∀ c ∈ l, ceOk c
      · exact ⟨h1, by omega, h3⟩
      · rw [doFault_bad h1 (by omega) h3] at h; cases h
  · rw [doFault_op h1] at h; cases h

/-- What all cells come to, in order; none, if there is a fault. -/
def cellsL (G : Int) (n : Nat) (f : Nat → Ce) : List Ce := if G = 0 then listCl n f else []
theorem cellsL_row {G : Int} {n : Nat} {f : Nat → Ce} {w w' : World} {v : Value} (h : (G ≠ 0 ∧ v = .slice none 0 0) ∨ (G = 0 ∧ ∃ A, v = .slice (some ⟨A, 0, none⟩) n n ∧ w.heap.size ≤ A ∧ RowCl w' A n f)) : KellsAt w' v (cellsL G n f) := by
  unfold cellsL
  rcases h with ⟨h0, rfl⟩ | ⟨h0, A, rfl, _, hR⟩
  · rw [if_neg h0]; exact ⟨rfl, fun y hy => by simp [flatCl] at hy, .inl ⟨rfl, .inl rfl⟩⟩
  · rw [if_pos h0]; exact hR.list n
theorem cellsL_len (G : Int) (n : Nat) (f : Nat → Ce) (h : G = 0 → n ≤ 30) : (cellsL G n f).length ≤ 1000 := by
  unfold cellsL
  split
  · rename_i h0; rw [listCl_len]; have := h h0; omega
  · simp
theorem cellsL_nil {G : Int} {n : Nat} {f : Nat → Ce} {w : World} (h : G ≠ 0) : KellsAt w (.slice none 0 0) (cellsL G n f) := by
  unfold cellsL; rw [if_neg h]; exact ⟨rfl, fun y hy => by simp [flatCl] at hy, .inl ⟨rfl, .inl rfl⟩⟩

set_option maxHeartbeats 16000000 in
set_option maxRecDepth 100000 in
theorem walk (v0 : Value) (l0 : Opn) (v1 : Value) (l1 : List Ce) (v2 : Value) (l2 : PlanL) (v3 : Value) (l3 : List Opn) (v4 : Value) (l4 : List Int) (w : World) (hglob : Glob w) (w0 : IsOp w v0 l0) (w1 : InKells w v1 l1) (w2 : ArgPlan w v2 l2) (w3 : InOps w v3 l3) (w4 : SizedInts w v4 l4) :
    Calls Tryd.prog 5 #[v0, v1, v2, v3, v4] w fun e w' => e = .returned (.bool true) ∧ Below w.heap.size w w' := by
  have HG := Lib.hid hglob
  obtain ⟨rfl, hwf⟩ := w0
  have HP := Lib.hid w2.2
  have HK := Lib.hid w1
  have HU := Lib.hid w3
  have HV := Lib.hid w4.1.reads
  have hol := w4.2
  have hlk : l1.length ≤ 9223372036854775807 := by have := w1.2.2; unfold maxLen at this; omega
  have hlu : l3.length ≤ 9223372036854775807 := by have := w3.2.2; unfold maxLen at this; omega
  have bdo := bounds_i64 hwf.1
  have bdn := bounds_i64 hwf.2
  clear w1 w2 w3 w4 hglob hwf
  have hal := (Only.refl [] w).alloc (.cells #[.int .i64 l0.what, .int .i64 l0.n] 48)
  have hBX := Lib.hid (Cells.new w #[.int .i64 l0.what, .int .i64 l0.n] 48)
  have bx0 := hBX.out.cell 0 _ rfl
  have bx1 := hBX.out.cell 1 _ rfl
  obtain ⟨w1, hw1⟩ : ∃ w1, w.alloc (.cells #[.int .i64 l0.what, .int .i64 l0.n] 48) = w1 := ⟨_, rfl⟩
  rw [hw1] at hal hBX bx0 bx1
  have hop := ref_Op l0 w1
  obtain ⟨ka, kc, rfl, hkc⟩ := HK.out.2.1.opt
  have HC := Lib.hid hkc
  obtain ⟨pa, pc, rfl, _⟩ := HP.out.task
  obtain ⟨ua, uc, rfl, _⟩ := HU.out.2.1.opt
  obtain ⟨oa, oc, rfl, _⟩ := HV.out.opt
  obtain ⟨nk, hnk⟩ : ∃ x, l1.length = x := ⟨_, rfl⟩
  obtain ⟨np, hnp⟩ : ∃ x, l2.length = x := ⟨_, rfl⟩
  obtain ⟨nu, hnu⟩ : ∃ x, l3.length = x := ⟨_, rfl⟩
  obtain ⟨no, hno⟩ : ∃ x, l4.length = x := ⟨_, rfl⟩
  have HNK := Lib.hid hnk
  have HNP := Lib.hid hnp
  have HNU := Lib.hid hnu
  have HNO := Lib.hid hno
  rw [hnk] at hlk HC HK ⊢
  rw [hnp] at HP ⊢
  rw [hnu] at hlu HU ⊢
  rw [hno] at hol HV ⊢
  have HAL := Lib.hid hal
  have hpf : Hid (preFault l0 nk = if opFault l0 = 0 ∧ 30 < nk then 4 else opFault l0) := rfl
  obtain ⟨of, hof⟩ : ∃ x, opFault l0 = x := ⟨_, rfl⟩
  have HOF := Lib.hid hof
  rw [hof] at hop hpf
  simp only [opV] at hop ⊢
  clear hnk hnp hnu hno hof hkc
  go_enter Tryd.func5, Tryd.ntmps5
  go_wp2_with fail
  refine hop.mono ?_
  rintro e w2 ⟨rfl, ho2⟩
  clear hop bx0 bx1
  obtain ⟨B1, hB1⟩ : ∃ B, (decide (of = 0) && decide (30 < nk)) = B := ⟨_, rfl⟩
  have HB1 := Lib.hid hB1
  clear hB1
  go_upto_region 2 with (fail)
  go_cut [33, 34, 35, 36] (fun _ _ _ vb wx => vb = .bool B1 ∧ w2 = wx)
  case first =>
    as_aux_lemma =>
      by_cases h0 : of = 0
      · subst h0
        by_cases h3 : 30 < nk
        · have e1 : Hid (B1 = true) := by show _ = _; rw [← HB1.out]; simp [h3]
          go_wp2
          go_meet
          exact ⟨by rw [e1.out] <;> first | rfl | (simp; omega), rfl⟩
        · have e1 : Hid (B1 = false) := by show _ = _; rw [← HB1.out]; simp; omega
          go_wp2
          go_meet
          exact ⟨by rw [e1.out] <;> first | rfl | (simp; omega), rfl⟩
      · have h1 : (of == 0) = false := by simpa using h0
        have e1 : Hid (B1 = false) := by show _ = _; rw [← HB1.out]; simp [h0]
        clear h0
        go_wp2
        go_meet
        exact ⟨by rw [e1.out] <;> first | rfl | (simp; omega), rfl⟩
  case rest =>
  obtain ⟨rfl, rfl⟩ := hcut
  go_upto_if 36 with (fail)
  go_cut [11] (fun ve wx => ve = .int .i64 (preFault l0 nk) ∧ w2 = wx)
  case first =>
    as_aux_lemma =>
      cases B1 with
      | true =>
        have h9 := HB1.out
        simp at h9
        have e1 := Lib.hid (hpf.out.trans (if_pos ⟨h9.1, h9.2⟩))
        clear h9
        go_wp2
        go_meet
        exact ⟨by rw [e1.out] <;> first | rfl | (simp; omega), rfl⟩
      | false =>
        have h9 := HB1.out
        simp at h9
        have e1 := Lib.hid (hpf.out.trans (if_neg (fun h => by have := h9 h.1; omega)))
        clear h9
        go_wp2
        go_meet
        exact ⟨by rw [e1.out] <;> first | rfl | (simp; omega), rfl⟩
  case rest =>
  obtain ⟨rfl, rfl⟩ := hcut
  have hfin : Hid (∀ x : Int, (∃ j, j ≤ nk ∧ ((x = 0 ∧ opFault l0 = 0 ∧ nk ≤ 30 ∧ (∀ i, i < j → ceOk (clAt l1 i)) ∧ j = nk) ∨ (x ≠ 0 ∧ x = doFault l0 l1))) → x = doFault l0 l1) := by
    show ∀ x : Int, _
    rintro x ⟨j, hj, ⟨rfl, h1, h2, h3, rfl⟩ | ⟨_, h⟩⟩
    · refine (doFault_ok ?_ (by rw [HNK.out]; exact h2) fun c hc => ?_).symm
      · by_cases e : opOk l0
        · exact e
        · unfold opFault at h1; rw [if_neg e] at h1; cases h1
      · obtain ⟨i, hi, rfl⟩ := List.getElem_of_mem hc
        have := h3 i (by rw [← HNK.out]; exact hi)
        rwa [show clAt l1 i = l1[i] by simp [clAt, hi]] at this
    · exact h
  have hpre : Hid ((preFault l0 nk = 0 ∧ opFault l0 = 0 ∧ nk ≤ 30) ∨ (preFault l0 nk ≠ 0 ∧ preFault l0 nk = doFault l0 l1)) := by
    show _ ∨ _
    unfold preFault
    by_cases h0 : opOk l0
    · have h1 : opFault l0 = 0 := by unfold opFault; rw [if_pos h0]
      by_cases h2 : 30 < nk
      · right; rw [if_pos ⟨h1, h2⟩]; exact ⟨by decide, (doFault_len h0 (by rw [HNK.out]; exact h2)).symm⟩
      · left; rw [if_neg (fun h => h2 h.2)]; exact ⟨h1, h1, by omega⟩
    · have h1 : opFault l0 = 1 := by unfold opFault; rw [if_neg h0]
      right
      rw [if_neg (fun h => by rw [h1] at h; exact absurd h.1 (by decide)), h1]
      exact ⟨by decide, (doFault_op h0).symm⟩
  have hbadc : Hid (opFault l0 = 0 → nk ≤ 30 → ∀ i, i < nk → ¬ ceOk (clAt l1 i) → doFault l0 l1 = 1) := fun h1 h2 i hi hb => by
    refine doFault_bad ?_ (by rw [HNK.out]; exact h2) fun h => hb (h _ (clAt_mem (by rw [HNK.out]; exact hi)))
    by_cases e : opOk l0
    · exact e
    · unfold opFault at h1; rw [if_neg e] at h1; cases h1
  obtain ⟨pf, hpfe⟩ : ∃ x, preFault l0 nk = x := ⟨_, rfl⟩
  rw [hpfe] at hpre ⊢
  clear hpfe hpf HB1
  go_upto_block 0 with (fail)
  go_cut [11, 12] (fun ve _ wx => ve = .int .i64 (doFault l0 l1) ∧ Only [] w1 wx)
  case first =>
    as_aux_lemma =>
      go_wp2_with fail
      go_loopw [11, 12] (fun ve vi wr => ∃ (j : Nat) (x : Int), j ≤ nk ∧ vi = .int .i64 j ∧ ve = .int .i64 x ∧ ((x = 0 ∧ opFault l0 = 0 ∧ nk ≤ 30 ∧ ∀ i, i < j → ceOk (clAt l1 i)) ∨ (x ≠ 0 ∧ x = doFault l0 l1)) ∧ Only [] w1 wr) (fun _ vi _ => nk - (intOf vi).toNat)
      case atStart =>
        refine ⟨0, pf, Nat.zero_le _, rfl, rfl, ?_, ho2⟩
        rcases hpre.out with ⟨h1, h2, h3⟩ | h
        · exact .inl ⟨h1, h2, h3, fun i hi => by omega⟩
        · exact .inr h
      case round =>
        obtain ⟨wo, rfl⟩ : ∃ wo : World, wo = wr := ⟨_, rfl⟩
        obtain ⟨j, x, hj, rfl, rfl, hx, ho⟩ := hrel
        rcases hx with ⟨rfl, h1, h2, h3⟩ | ⟨h1, h2⟩
        · have H1 := Lib.hid h1
          have H3 := Lib.hid h3
          have hbad := Lib.hid (hbadc.out h1 h2)
          have hfi := Lib.hid (fun (e : j = nk) => hfin.out 0 ⟨j, hj, .inl ⟨rfl, h1, h2, h3, e⟩⟩)
          clear h1 h3
          by_cases hjn : j < nk
          · obtain ⟨b, off, rfl, k0, k1⟩ := HC.out j hjn
            have c0 := ((HAL.out.trans ho (by simp)).cell (p := ⟨b, _, none⟩) (cell_lt k0) (by simp)).trans k0
            have c1 := ((HAL.out.trans ho (by simp)).cell (p := ⟨b, _, none⟩) (cell_lt k1) (by simp)).trans k1
            have hce := ref_Cell (clAt l1 j) wo
            have hcs : Hid ((ceFault (clAt l1 j) = 0 ∧ opFault l0 = 0 ∧ nk ≤ 30 ∧ ∀ i, i < j + 1 → ceOk (clAt l1 i)) ∨ (ceFault (clAt l1 j) ≠ 0 ∧ ceFault (clAt l1 j) = doFault l0 l1)) := by
              show _ ∨ _
              unfold ceFault
              by_cases e : ceOk (clAt l1 j)
              · left; rw [if_pos e]
                refine ⟨rfl, H1.out, h2, fun i hi => ?_⟩
                by_cases e2 : i = j
                · subst e2; exact e
                · exact H3.out i (by omega)
              · right; rw [if_neg e]; exact ⟨by decide, (hbad.out j hjn e).symm⟩
            obtain ⟨cl, hcl⟩ : ∃ c, clAt l1 j = c := ⟨_, rfl⟩
            rw [hcl] at c0 c1 hce
            obtain ⟨cf, hcf⟩ : ∃ c, ceFault (clAt l1 j) = c := ⟨_, rfl⟩
            rw [hcf] at hcs
            rw [← hcl, hcf, hcl] at hce
            obtain ⟨cn, cb⟩ := cl
            simp only [ceV] at hce c0 c1
            clear hcl hcf k0 k1
            go_wp2_with fail
            refine hce.mono ?_
            rintro e w9 ⟨rfl, ho9⟩
            have ho9 := Lib.hid (ho.trans ho9 (by simp))
            clear hce
            go_wp2
            go_roundw
            case rel => exact ⟨j + 1, cf, by omega, by go_num, rfl, hcs.out, ho9.out⟩
            case measure => (simp [intOf]; try omega)
          · have hz := Lib.hid (hfi.out (by omega))
            go_wp2
            go_meet
            exact ⟨by rw [← hz.out], ho⟩
        · have hx0 : (x == 0) = false := by simpa using h1
          have H2 := Lib.hid h2
          clear h1 h2
          by_cases hjn : j < nk
          all_goals
            go_wp2
            go_meet
            exact ⟨by rw [← H2.out], ho⟩
  case rest =>
  obtain ⟨rfl, ho3⟩ := hcut
  obtain ⟨w3, rfl⟩ : ∃ w3, w3 = wc := ⟨_, rfl⟩
  obtain ⟨F, hF⟩ : ∃ x, doFault l0 l1 = x := ⟨_, rfl⟩
  have HF := Lib.hid hF
  have hcd := cells_Do l0 (.slice ka nk kc) l1
  have hrs : Hid (doRes l0 l1 = if F = 0 then doC l0 l1 else clZero) := by show _ = _; unfold doRes; rw [hF]
  rw [hF] at hcd ⊢
  obtain ⟨rs, hrse⟩ : ∃ x, doRes l0 l1 = x := ⟨_, rfl⟩
  rw [hrse] at hcd hrs
  have HCD := Lib.hid (fun w' (ho : Only [] w w') => hcd w' (HK.out.2.1.same ho) (by rw [HNK.out]; exact hlk))
  have HRD := Lib.hid (fun w' (ho : Only [] w w') (h0 : F = 0) => ref_Do l0 (.slice ka nk kc) l1 w' (doFault_zero (HF.out.trans h0)).1 (HK.out.2.1.same ho) (doFault_zero (HF.out.trans h0)).2.2 (by have := (doFault_zero (HF.out.trans h0)).2.1; omega))
  clear hF hrse hcd hfin hpre hbadc HC HOF ho2 hal
  have hs1 : w.heap.size < w1.heap.size := by rw [← hw1]; simp
  clear hw1
  go_upto_if 53 with (fail)
  have hal3 := (Only.refl [] w3).alloc (.cells #[.int .i64 0, .bool false] 54)
  have hs3 := ho3.size
  have hW0 := Cells.new w3 #[.int .i64 0, .bool false] 54
  have hoa3 := ho3.trans hal3 (by simp)
  go_cut [] (fun wx => Cells wx w3.heap.size [.int .i64 rs.n, .bool rs.bad] ∧ Only [] w1 wx)
  case first =>
    as_aux_lemma =>
      by_cases h0 : F = 0
      · have hcall := HRD.out _ (HAL.out.trans hoa3 (by simp)) h0
        have hr2 := hrs.out.trans (if_pos h0)
        rw [← hr2] at hcall
        have hB := hBX.out.only hoa3 (by simp)
        have q0 := hB.cell 0 _ rfl
        have q1 := hB.cell 1 _ rfl
        have HW0 := Lib.hid hW0
        have HO3 := Lib.hid hoa3
        have hlt : w3.heap.size < (w3.alloc (.cells #[.int .i64 0, .bool false] 54)).heap.size := by simp
        obtain ⟨w4, hw4⟩ : ∃ w4, w3.alloc (.cells #[.int .i64 0, .bool false] 54) = w4 := ⟨_, rfl⟩
        rw [hw4] at hcall hB q0 q1 HW0 HO3 hlt
        obtain ⟨cn, cb⟩ := rs
        simp only [opV, ceV] at hcall
        subst h0
        clear hr2 hW0 hoa3 hal3 hB
        go_wp2_with fail
        refine hcall.mono ?_
        rintro e w5 ⟨rfl, ho5⟩
        have hC5 := HW0.out.only ho5 (by simp)
        have e0 := hC5.cell 0 _ rfl
        have e1 := hC5.cell 1 _ rfl
        have f0 := hC5.free 0 _ rfl
        have f1 := hC5.free 1 _ rfl
        have hst := Lib.hid (hC5.set2 (u := .int .i64 cn) (v := .bool cb))
        have hos := Lib.hid (((HO3.out.trans ho5 (by simp)).setCell (p := ⟨w3.heap.size, 0, none⟩) (fun h => by simp at h; omega) (.int .i64 cn)).setCell (p := ⟨w3.heap.size, 1, none⟩) (fun h => by simp at h; omega) (.bool cb))
        clear hcall hC5 ho5 q0 q1
        go_wp2
        go_meet
        exact ⟨hst.out, hos.out⟩
      · have hr2 := hrs.out.trans (if_neg h0)
        subst hr2
        have hf0 : (F == 0) = false := by simpa using h0
        have HW0 := Lib.hid hW0
        have HO3 := Lib.hid hoa3
        clear h0 hW0 hoa3 hal3
        go_wp2
        go_meet
        exact ⟨HW0.out, HO3.out⟩
  case rest =>
  obtain ⟨hW4, ho4⟩ := hcut
  obtain ⟨w4, rfl⟩ : ∃ w4, w4 = wc := ⟨_, rfl⟩
  clear hal3 hW0 hoa3 HRD hrs
  have hBq := hBX.out.only ho4 (by simp)
  have q0 := hBq.cell 0 _ rfl
  have q1 := hBq.cell 1 _ rfl
  have hdo := HCD.out w4 (HAL.out.trans ho4 (by simp))
  have hW3lt := hW4.lt
  obtain ⟨cn, cb⟩ := rs
  simp only [opV, ceV] at hdo hW4
  clear hBq HCD
  go_wp2_with fail
  refine hdo.mono ?_
  rintro e w5 ⟨rfl, ho5⟩
  have ho45 := ho4.trans ho5 (by simp)
  have hal5 := (Only.refl [] w5).alloc (.cells #[.int .i64 cn, .bool cb] 54)
  have hW5 := (hW4.only ho5 (by simp)).only hal5 (by simp)
  have hV5 := Cells.new w5 #[.int .i64 cn, .bool cb] 54
  have hoa5 := ho45.trans hal5 (by simp)
  have hlt5 : w5.heap.size < (w5.alloc (.cells #[.int .i64 cn, .bool cb] 54)).heap.size := by simp
  have hgl5 := HG.out.only (HAL.out.trans hoa5 (by simp))
  have hse := same_errV F _ hgl5
  obtain ⟨w6, hw6⟩ : ∃ w6, w5.alloc (.cells #[.int .i64 cn, .bool cb] 54) = w6 := ⟨_, rfl⟩
  rw [hw6] at hW5 hV5 hoa5 hlt5 hse
  have HW5 := Lib.hid hW5
  have HV5 := Lib.hid hV5
  have hlt3 : w3.heap.size < w5.heap.size := by have := ho5.size; omega
  clear hdo hW4 hal5 hV5 hW5 hgl5 ho45 q0 q1
  go_wp2_with fail
  refine hse.mono ?_
  rintro e w7 ⟨rfl, ho7⟩
  have ho7w := hoa5.trans ho7 (by simp)
  have hW7 := HW5.out.only ho7 (by simp)
  have hV7 := HV5.out.only ho7 (by simp)
  have a0 := hW7.cell 0 _ rfl
  have a1 := hW7.cell 1 _ rfl
  have b0 := hV7.cell 0 _ rfl
  have b1 := hV7.cell 1 _ rfl
  have hops := ref_Ops (.slice pa np pc) (.slice ua nu uc) l2 l3 w7 (HP.out.same (HAL.out.trans ho7w (by simp))) (HU.out.2.1.same (HAL.out.trans ho7w (by simp))) (by rw [HNU.out]; exact hlu)
  clear hse HW5 HV5 hW7 hV7 hw6 hoa5 ho7
  go_wp2_with fail
  refine hops.mono ?_
  rintro e w8 ⟨rfl, ho8⟩
  have ho8w := ho7w.trans ho8 (by simp)
  clear hops a0 a1 b0 b1 ho7w ho8
  have HALL := Lib.hid (fun w' (ho : Only [] w1 w') => cells_All (.slice pa np pc) (.slice ua nu uc) l2 l3 w' (HP.out.same (HAL.out.trans ho (by simp))) (HU.out.2.1.same (HAL.out.trans ho (by simp))) (by rw [HNU.out]; exact hlu))
  have hz := Lib.hid (fun (h : allFault l2 l3 = 0) => allFault_zero h)
  have HRO := Lib.hid (fun w' (ho : Only [] w1 w') (h : allFault l2 l3 = 0) => ref_Order (.slice pa np pc) l2 w' (HP.out.same (HAL.out.trans ho (by simp))) (allFault_zero h).1)
  have HRA := Lib.hid (fun w' ov o (ho : Only [] w1 w') (h : allFault l2 l3 = 0) (hr : Reads w' ov (natL o)) (hon : ∀ x ∈ o, x < l2.length) (hol : o.length ≤ 1000) => ref_Along (.slice pa np pc) (.slice ua nu uc) ov l2 l3 o w' (HP.out.same (HAL.out.trans ho (by simp))) (allFault_zero h).1 (HU.out.2.1.same (HAL.out.trans ho (by simp))) (allFault_zero h).2.2 (allFault_zero h).2.1 hr hon hol)
  have HAO := Lib.hid (fun w' (ho : Only [] w1 w') => cells_Along (.slice pa np pc) (.slice ua nu uc) (.slice oa no oc) l2 l3 l4 w' (HP.out.same (HAL.out.trans ho (by simp))) (HU.out.2.1.same (HAL.out.trans ho (by simp))) (by rw [HNU.out]; exact hlu) (HV.out.same (HAL.out.trans ho (by simp))) (by rw [HNO.out]; omega))
  have hn30 : Hid (allFault l2 l3 = 0 → np ≤ 30) := fun h => by rw [← HNP.out]; exact (allFault_zero h).1.len
  have hH : Hid (alongFault l2 l3 l4 = if allFault l2 l3 ≠ 0 then allFault l2 l3 else if ¬ EachOf l2.length l4 then 3 else if ¬ aheadB l2 (l4.map Int.toNat) then 6 else 0) := rfl
  obtain ⟨f1, hf1⟩ : ∃ f, foldA l2 l3 (orderOf l2) = f := ⟨_, rfl⟩
  have HF1 := Lib.hid hf1
  obtain ⟨f2, hf2⟩ : ∃ f, foldA l2 l3 (l4.map Int.toNat) = f := ⟨_, rfl⟩
  have HF2 := Lib.hid hf2
  obtain ⟨G, hG⟩ : ∃ x, allFault l2 l3 = x := ⟨_, rfl⟩
  have HGG := Lib.hid hG
  rw [hG, HNP.out, hf1] at HALL
  rw [hG] at hz HRO hn30 hH ⊢
  rw [hG, HNP.out] at HRA
  rw [HNP.out, hf2] at HAO
  clear hG hf1 hf2
  go_upto_if 75 with (fail)
  go_cut [17] (fun va wx => KellsAt wx va (cellsL G np f1) ∧ Only [] w1 wx)
  case first =>
    as_aux_lemma =>
      by_cases h0 : G = 0
      · obtain ⟨hok, hl, hops⟩ := hz.out h0
        have hro := HRO.out w8 ho8w h0
        have hord := orderOf_ok hok
        have hom : ∀ x ∈ orderOf l2, x < np := fun x hx => by have := (orderOf_mem hok x).1 hx; rw [HNP.out] at this; exact this
        have hol2 : (orderOf l2).length ≤ 1000 := by have := topo_len hok l2.length (Nat.le_refl _); have := hok.len; show (topo l2 l2.length).length ≤ 1000; omega
        have HRA2 := Lib.hid (fun w' ov ho hr => HRA.out w' ov (orderOf l2) ho h0 hr hom hol2)
        have HAH := Lib.hid hord.2.1
        have HF := Lib.hid HF1.out
        clear hz HRO HRA hok hl hops hord hom hol2 HALL HAO hn30 hH
        subst h0
        go_wp2_with fail
        refine hro.mono ?_
        rintro e w9 ⟨vo, rfl, hI9, ho9⟩
        have ho9w := ho8w.trans ho9 (by simp)
        have hra := HRA2.out w9 vo ho9w hI9.reads
        clear hro hI9 ho9
        go_wp2_with fail
        refine hra.mono ?_
        rintro e wA ⟨vA, bA, rfl, hoA, hx⟩
        have hoAw := Lib.hid (ho9w.trans hoA (by simp))
        rcases hx with ⟨rfl, _, A, rfl, _, hR⟩ | ⟨_, hx, _⟩
        · rw [HF.out] at hR
          have hkl : Hid (KellsAt wA (.slice (some ⟨A, 0, none⟩) np np) (cellsL 0 np f1)) := by
            show KellsAt _ _ _
            unfold cellsL; rw [if_pos rfl]; exact hR.list np
          clear hR hra hoA
          go_wp2
          go_meet
          exact ⟨hkl.out, hoAw.out⟩
        · exact absurd HAH.out hx
      · have hG0 : (G == 0) = false := by simpa using h0
        have hkl := Lib.hid (cellsL_nil (n := np) (f := f1) (w := w8) h0)
        clear h0
        go_wp2
        go_meet
        exact ⟨hkl.out, ho8w⟩
  case rest =>
  obtain ⟨hK9, ho9w⟩ := hcut
  obtain ⟨w9, rfl⟩ : ∃ w9, w9 = wc := ⟨_, rfl⟩
  have hall := HALL.out w9 ho9w
  have HK9 := Lib.hid hK9
  clear HRO HALL hK9
  go_wp2_with fail
  refine hall.mono ?_
  rintro e wA ⟨vA, rfl, hoA, hxA⟩
  have hKA := Lib.hid (cellsL_row hxA)
  have hoAw := ho9w.trans hoA (by simp)
  have hgA := HG.out.only (HAL.out.trans hoAw (by simp))
  have hK9A := Lib.hid (HK9.out.same hoA)
  have hse := same_errV G wA hgA
  clear hall hxA hgA HK9 hoA
  go_wp2_with fail
  refine hse.mono ?_
  rintro e wB ⟨rfl, hoB⟩
  have hsk := same_kells _ _ _ wB (hKA.out.same hoB) (hK9A.out.same hoB) (cellsL_len _ _ _ hn30.out)
  have hoBw := hoAw.trans hoB (by simp)
  clear hse hKA hK9A hoB hoAw
  go_wp2_with fail
  refine hsk.mono ?_
  rintro e wC ⟨rfl, dC, rfl⟩
  have hoCw := hoBw.drewN dC
  clear hsk hoBw
  obtain ⟨wC, hwC⟩ : ∃ wC, wB.drewN dC = wC := ⟨_, rfl⟩
  rw [hwC] at hoCw ⊢
  clear hwC
  have HEA := Lib.hid (fun w' (ho : Only [] w1 w') (h : np ≤ 1000) => ref_Each np (.slice oa no oc) l4 w' (HV.out.same (HAL.out.trans ho (by simp))) (by rw [HNO.out]; omega) h)
  have hcs : Hid ((G ≠ 0 ∧ alongFault l2 l3 l4 = G) ∨ (G = 0 ∧ ¬ EachOf np l4 ∧ alongFault l2 l3 l4 = 3) ∨ (G = 0 ∧ EachOf np l4 ∧ ¬ aheadB l2 (l4.map Int.toNat) ∧ alongFault l2 l3 l4 = 6) ∨ (G = 0 ∧ EachOf np l4 ∧ aheadB l2 (l4.map Int.toNat) ∧ alongFault l2 l3 l4 = 0)) := by
    show _ ∨ _
    rw [hH.out, HNP.out]
    by_cases h0 : G = 0
    · right
      rw [if_neg (by simp [h0])]
      by_cases h1 : EachOf np l4
      · right
        rw [if_neg (by simp [h1])]
        by_cases h2 : aheadB l2 (l4.map Int.toNat)
        · right; rw [if_neg (by simp [h2])]; exact ⟨h0, h1, h2, rfl⟩
        · left; rw [if_pos h2]; exact ⟨h0, h1, h2, rfl⟩
      · left; rw [if_pos h1]; exact ⟨h0, h1, rfl⟩
    · left; rw [if_pos h0]; exact ⟨h0, rfl⟩
  have HRA4 : Hid (G = 0 → EachOf np l4 → ∀ w', Only [] w1 w' → Calls Tryd.prog 19 #[.slice pa np pc, .slice ua nu uc, .slice oa no oc] w' fun e w'' => ∃ v' b, e = .returned (.tuple #[v', .bool b]) ∧ Only [] w' w'' ∧
      ((b = true ∧ aheadB l2 (l4.map Int.toNat) ∧ ∃ A, v' = .slice (some ⟨A, 0, none⟩) np np ∧ w'.heap.size ≤ A ∧ RowCl w'' A np f2) ∨ (b = false ∧ ¬ aheadB l2 (l4.map Int.toNat) ∧ v' = .slice none 0 0))) := fun h0 hE w' ho => by
    obtain ⟨o, hlo, hperm⟩ := hE.mem
    have hto : l4.map Int.toNat = o := by rw [hlo, natL_toNat]
    have hrd := HV.out.same (HAL.out.trans ho (by simp))
    have h2 := HF2.out
    rw [hto] at h2 ⊢
    have := HRA.out w' (.slice oa no oc) o ho h0 (by rw [← hlo]; exact hrd) (fun x hx => by
      have := (hperm.mem_iff (a := x)).1 hx
      simpa using this) (by have := hperm.length_eq; have := hn30.out h0; simp at *; omega)
    rw [h2] at this
    exact this
  clear HRA hH hz
  rcases hcs.out with ⟨h0, hH⟩ | ⟨h0, hE, hH⟩ | ⟨h0, hE, hA, hH⟩ | ⟨h0, hE, hA, hH⟩
  · have hao := Lib.hid (fun w' ho => HAO.out w' ho)
    rw [hH] at hao
    have hG0 : (G == 0) = false := by simpa using h0
    have hKD : KellsAt wC (.slice none 0 0) (cellsL G np f2) := cellsL_nil h0
    have hln : (cellsL G np f2).length ≤ 1000 := cellsL_len _ _ _ hn30.out
    have hoD := hoCw
    clear hcs HAO HRA4 HEA hn30 h0 hH hoCw
    go_wp2_with fail
    refine (hao.out wC hoD).mono ?_
    rintro e wE ⟨vE, rfl, hoE, hxE⟩
    have HKE := Lib.hid (cellsL_row hxE)
    have HKD2 := Lib.hid (hKD.same hoE)
    have hoEw := hoD.trans hoE (by simp)
    have hse := same_errV G wE (HG.out.only (HAL.out.trans hoEw (by simp)))
    clear hao hxE hoE hKD hoD
    go_wp2_with fail
    refine hse.mono ?_
    rintro e wF ⟨rfl, hoF⟩
    have hsk := same_kells _ _ _ wF (HKE.out.same hoF) (HKD2.out.same hoF) hln
    have hoFw := hoEw.trans hoF (by simp)
    clear hse HKE HKD2 hoF hoEw hln
    go_wp2_with fail
    refine hsk.mono ?_
    rintro e wH ⟨rfl, dH, rfl⟩
    have hoHw := hoFw.drewN dH
    clear hsk hoFw
    obtain ⟨wH, hwH⟩ : ∃ wH, wF.drewN dH = wH := ⟨_, rfl⟩
    rw [hwH] at hoHw ⊢
    clear hwH
    have q1 := (hBX.out.only hoHw (by simp)).cell 1 _ rfl
    go_upto_region 34 with (fail)
    clear q1
    have hCq := Cells.new wH #[.int .i64 l0.n, .bool false] 54
    have hoI := hoHw.trans ((Only.refl [] wH).alloc (.cells #[.int .i64 l0.n, .bool false] 54)) (by simp)
    obtain ⟨wI, hwI⟩ : ∃ wI, wH.alloc (.cells #[.int .i64 l0.n, .bool false] 54) = wI := ⟨_, rfl⟩
    rw [hwI] at hCq hoI ⊢
    have i0 := hCq.cell 0 _ rfl
    have i1 := hCq.cell 1 _ rfl
    have j0 : wI.drew.cell? ⟨wH.heap.size, 0, none⟩ = some (.int .i64 l0.n) := i0
    have j1 : wI.drew.cell? ⟨wH.heap.size, 1, none⟩ = some (.bool false) := i1
    have hoId := hoI.drew
    have hck := fun W => cells_Check ⟨l0.n, false⟩ W
    have hcl := fun W => ref_Cell ⟨l0.n, false⟩ W
    obtain ⟨cf, hcf⟩ : ∃ c, ceFault ⟨l0.n, false⟩ = c := ⟨_, rfl⟩
    rw [hcf] at hck hcl
    simp only [ceV] at hck hcl
    have HCK := Lib.hid hck
    have HCL := Lib.hid hcl
    have HGW := Lib.hid (fun W (h : Only [] w1 W) => same_errV cf W (HG.out.only (HAL.out.trans h (by simp))))
    clear hcf hck hcl hoI hCq hwI
    go_region_law (first
      | (go_simp; go_at_call 25; refine (HCK.out _).mono ?_; rintro e wG1 ⟨rfl, hoG1⟩; have k0 := (hoG1.cell (p := ⟨wH.heap.size, 0, none⟩) (cell_lt (by assumption)) (by simp)).trans (by assumption); have k1 := (hoG1.cell (p := ⟨wH.heap.size, 1, none⟩) (cell_lt (by assumption)) (by simp)).trans (by assumption))
      | (go_simp; go_at_call 15; refine (HCL.out _).mono ?_; rintro e wG2 ⟨rfl, hoG2⟩; have n0 := (hoG2.cell (p := ⟨wH.heap.size, 0, none⟩) (cell_lt (by assumption)) (by simp)).trans (by assumption); have n1 := (hoG2.cell (p := ⟨wH.heap.size, 1, none⟩) (cell_lt (by assumption)) (by simp)).trans (by assumption))
      | (go_simp; go_at_call 8; refine (HGW.out _ (by first | exact (hoId.trans hoG1 (by simp)).trans hoG2 (by simp) | exact (hoId.trans hoG2 (by simp)).trans hoG1 (by simp))).mono ?_; rintro e wZ ⟨rfl, hoZ⟩; have hoZw : Only [] w1 wZ := by first | exact ((hoId.trans hoG1 (by simp)).trans hoG2 (by simp)).trans hoZ (by simp) | exact ((hoId.trans hoG2 (by simp)).trans hoG1 (by simp)).trans hoZ (by simp)))
    all_goals
      have hfin := Lib.hid (HAL.out.trans hoZw (by simp))
      go_wp2
      go_ret
      exact ⟨by rfl, hfin.out.below (Nat.le_refl _) (by simp)⟩
  · have hao := Lib.hid (fun w' ho => HAO.out w' ho)
    rw [hH] at hao
    have hea := HEA.out wC hoCw (by have := hn30.out h0; omega)
    rw [decide_eq_false hE] at hea
    have hln : (cellsL 3 np f2).length ≤ 1000 := cellsL_len _ _ _ (fun h => by cases h)
    subst h0
    clear hcs HAO HRA4 HEA hn30 hH hE
    go_wp2_with fail
    refine hea.mono ?_
    rintro e wD ⟨rfl, hoD1⟩
    have hoD := hoCw.trans hoD1 (by simp)
    have hKD : KellsAt wD (.slice none 0 0) (cellsL 3 np f2) := cellsL_nil (by decide)
    clear hea hoD1 hoCw
    go_wp2_with fail
    refine (hao.out wD hoD).mono ?_
    rintro e wE ⟨vE, rfl, hoE, hxE⟩
    have HKE := Lib.hid (cellsL_row hxE)
    have HKD2 := Lib.hid (hKD.same hoE)
    have hoEw := hoD.trans hoE (by simp)
    have hse := same_errV 3 wE (HG.out.only (HAL.out.trans hoEw (by simp)))
    clear hao hxE hoE hKD hoD
    go_wp2_with fail
    refine hse.mono ?_
    rintro e wF ⟨rfl, hoF⟩
    have hsk := same_kells _ _ _ wF (HKE.out.same hoF) (HKD2.out.same hoF) hln
    have hoFw := hoEw.trans hoF (by simp)
    clear hse HKE HKD2 hoF hoEw hln
    go_wp2_with fail
    refine hsk.mono ?_
    rintro e wH ⟨rfl, dH, rfl⟩
    have hoHw := hoFw.drewN dH
    clear hsk hoFw
    obtain ⟨wH, hwH⟩ : ∃ wH, wF.drewN dH = wH := ⟨_, rfl⟩
    rw [hwH] at hoHw ⊢
    clear hwH
    have q1 := (hBX.out.only hoHw (by simp)).cell 1 _ rfl
    go_upto_region 34 with (fail)
    clear q1
    have hCq := Cells.new wH #[.int .i64 l0.n, .bool false] 54
    have hoI := hoHw.trans ((Only.refl [] wH).alloc (.cells #[.int .i64 l0.n, .bool false] 54)) (by simp)
    obtain ⟨wI, hwI⟩ : ∃ wI, wH.alloc (.cells #[.int .i64 l0.n, .bool false] 54) = wI := ⟨_, rfl⟩
    rw [hwI] at hCq hoI ⊢
    have i0 := hCq.cell 0 _ rfl
    have i1 := hCq.cell 1 _ rfl
    have j0 : wI.drew.cell? ⟨wH.heap.size, 0, none⟩ = some (.int .i64 l0.n) := i0
    have j1 : wI.drew.cell? ⟨wH.heap.size, 1, none⟩ = some (.bool false) := i1
    have hoId := hoI.drew
    have hck := fun W => cells_Check ⟨l0.n, false⟩ W
    have hcl := fun W => ref_Cell ⟨l0.n, false⟩ W
    obtain ⟨cf, hcf⟩ : ∃ c, ceFault ⟨l0.n, false⟩ = c := ⟨_, rfl⟩
    rw [hcf] at hck hcl
    simp only [ceV] at hck hcl
    have HCK := Lib.hid hck
    have HCL := Lib.hid hcl
    have HGW := Lib.hid (fun W (h : Only [] w1 W) => same_errV cf W (HG.out.only (HAL.out.trans h (by simp))))
    clear hcf hck hcl hoI hCq hwI
    go_region_law (first
      | (go_simp; go_at_call 25; refine (HCK.out _).mono ?_; rintro e wG1 ⟨rfl, hoG1⟩; have k0 := (hoG1.cell (p := ⟨wH.heap.size, 0, none⟩) (cell_lt (by assumption)) (by simp)).trans (by assumption); have k1 := (hoG1.cell (p := ⟨wH.heap.size, 1, none⟩) (cell_lt (by assumption)) (by simp)).trans (by assumption))
      | (go_simp; go_at_call 15; refine (HCL.out _).mono ?_; rintro e wG2 ⟨rfl, hoG2⟩; have n0 := (hoG2.cell (p := ⟨wH.heap.size, 0, none⟩) (cell_lt (by assumption)) (by simp)).trans (by assumption); have n1 := (hoG2.cell (p := ⟨wH.heap.size, 1, none⟩) (cell_lt (by assumption)) (by simp)).trans (by assumption))
      | (go_simp; go_at_call 8; refine (HGW.out _ (by first | exact (hoId.trans hoG1 (by simp)).trans hoG2 (by simp) | exact (hoId.trans hoG2 (by simp)).trans hoG1 (by simp))).mono ?_; rintro e wZ ⟨rfl, hoZ⟩; have hoZw : Only [] w1 wZ := by first | exact ((hoId.trans hoG1 (by simp)).trans hoG2 (by simp)).trans hoZ (by simp) | exact ((hoId.trans hoG2 (by simp)).trans hoG1 (by simp)).trans hoZ (by simp)))
    all_goals
      have hfin := Lib.hid (HAL.out.trans hoZw (by simp))
      go_wp2
      go_ret
      exact ⟨by rfl, hfin.out.below (Nat.le_refl _) (by simp)⟩
  · have hao := Lib.hid (fun w' ho => HAO.out w' ho)
    rw [hH] at hao
    have hea := HEA.out wC hoCw (by have := hn30.out h0; omega)
    rw [decide_eq_true hE] at hea
    have hra := Lib.hid (HRA4.out h0 hE)
    have hln : (cellsL 6 np f2).length ≤ 1000 := cellsL_len _ _ _ (fun h => by cases h)
    subst h0
    have hA := Lib.hid hA
    clear hcs HAO HRA4 HEA hn30 hH hE
    go_wp2_with fail
    refine hea.mono ?_
    rintro e wD ⟨rfl, hoD1⟩
    have hoD1 := hoCw.trans hoD1 (by simp)
    clear hea hoCw
    go_wp2_with fail
    refine (hra.out wD hoD1).mono ?_
    rintro e wD2 ⟨vD, bD, rfl, hoD2, hxD⟩
    have hoD := hoD1.trans hoD2 (by simp)
    rcases hxD with ⟨_, hx, _⟩ | ⟨rfl, _, rfl⟩
    · exact absurd hx hA.out
    have hKD : KellsAt wD2 (.slice none 0 0) (cellsL 6 np f2) := cellsL_nil (by decide)
    clear hra hoD1 hoD2
    go_wp2_with fail
    refine (hao.out wD2 hoD).mono ?_
    rintro e wE ⟨vE, rfl, hoE, hxE⟩
    have HKE := Lib.hid (cellsL_row hxE)
    have HKD2 := Lib.hid (hKD.same hoE)
    have hoEw := hoD.trans hoE (by simp)
    have hse := same_errV 6 wE (HG.out.only (HAL.out.trans hoEw (by simp)))
    clear hao hxE hoE hKD hoD
    go_wp2_with fail
    refine hse.mono ?_
    rintro e wF ⟨rfl, hoF⟩
    have hsk := same_kells _ _ _ wF (HKE.out.same hoF) (HKD2.out.same hoF) hln
    have hoFw := hoEw.trans hoF (by simp)
    clear hse HKE HKD2 hoF hoEw hln
    go_wp2_with fail
    refine hsk.mono ?_
    rintro e wH ⟨rfl, dH, rfl⟩
    have hoHw := hoFw.drewN dH
    clear hsk hoFw
    obtain ⟨wH, hwH⟩ : ∃ wH, wF.drewN dH = wH := ⟨_, rfl⟩
    rw [hwH] at hoHw ⊢
    clear hwH
    have q1 := (hBX.out.only hoHw (by simp)).cell 1 _ rfl
    go_upto_region 34 with (fail)
    clear q1
    have hCq := Cells.new wH #[.int .i64 l0.n, .bool false] 54
    have hoI := hoHw.trans ((Only.refl [] wH).alloc (.cells #[.int .i64 l0.n, .bool false] 54)) (by simp)
    obtain ⟨wI, hwI⟩ : ∃ wI, wH.alloc (.cells #[.int .i64 l0.n, .bool false] 54) = wI := ⟨_, rfl⟩
    rw [hwI] at hCq hoI ⊢
    have i0 := hCq.cell 0 _ rfl
    have i1 := hCq.cell 1 _ rfl
    have j0 : wI.drew.cell? ⟨wH.heap.size, 0, none⟩ = some (.int .i64 l0.n) := i0
    have j1 : wI.drew.cell? ⟨wH.heap.size, 1, none⟩ = some (.bool false) := i1
    have hoId := hoI.drew
    have hck := fun W => cells_Check ⟨l0.n, false⟩ W
    have hcl := fun W => ref_Cell ⟨l0.n, false⟩ W
    obtain ⟨cf, hcf⟩ : ∃ c, ceFault ⟨l0.n, false⟩ = c := ⟨_, rfl⟩
    rw [hcf] at hck hcl
    simp only [ceV] at hck hcl
    have HCK := Lib.hid hck
    have HCL := Lib.hid hcl
    have HGW := Lib.hid (fun W (h : Only [] w1 W) => same_errV cf W (HG.out.only (HAL.out.trans h (by simp))))
    clear hcf hck hcl hoI hCq hwI
    go_region_law (first
      | (go_simp; go_at_call 25; refine (HCK.out _).mono ?_; rintro e wG1 ⟨rfl, hoG1⟩; have k0 := (hoG1.cell (p := ⟨wH.heap.size, 0, none⟩) (cell_lt (by assumption)) (by simp)).trans (by assumption); have k1 := (hoG1.cell (p := ⟨wH.heap.size, 1, none⟩) (cell_lt (by assumption)) (by simp)).trans (by assumption))
      | (go_simp; go_at_call 15; refine (HCL.out _).mono ?_; rintro e wG2 ⟨rfl, hoG2⟩; have n0 := (hoG2.cell (p := ⟨wH.heap.size, 0, none⟩) (cell_lt (by assumption)) (by simp)).trans (by assumption); have n1 := (hoG2.cell (p := ⟨wH.heap.size, 1, none⟩) (cell_lt (by assumption)) (by simp)).trans (by assumption))
      | (go_simp; go_at_call 8; refine (HGW.out _ (by first | exact (hoId.trans hoG1 (by simp)).trans hoG2 (by simp) | exact (hoId.trans hoG2 (by simp)).trans hoG1 (by simp))).mono ?_; rintro e wZ ⟨rfl, hoZ⟩; have hoZw : Only [] w1 wZ := by first | exact ((hoId.trans hoG1 (by simp)).trans hoG2 (by simp)).trans hoZ (by simp) | exact ((hoId.trans hoG2 (by simp)).trans hoG1 (by simp)).trans hoZ (by simp)))
    all_goals
      have hfin := Lib.hid (HAL.out.trans hoZw (by simp))
      go_wp2
      go_ret
      exact ⟨by rfl, hfin.out.below (Nat.le_refl _) (by simp)⟩
  · have hao := Lib.hid (fun w' ho => HAO.out w' ho)
    rw [hH] at hao
    have hea := HEA.out wC hoCw (by have := hn30.out h0; omega)
    rw [decide_eq_true hE] at hea
    have hra := Lib.hid (HRA4.out h0 hE)
    have hln : (cellsL 0 np f2).length ≤ 1000 := cellsL_len _ _ _ (fun _ => hn30.out h0)
    subst h0
    have hA := Lib.hid hA
    clear hcs HAO HRA4 HEA hn30 hH hE
    go_wp2_with fail
    refine hea.mono ?_
    rintro e wD ⟨rfl, hoD1⟩
    have hoD1 := hoCw.trans hoD1 (by simp)
    clear hea hoCw
    go_wp2_with fail
    refine (hra.out wD hoD1).mono ?_
    rintro e wD2 ⟨vD, bD, rfl, hoD2, hxD⟩
    have hoD := hoD1.trans hoD2 (by simp)
    rcases hxD with ⟨rfl, _, A, rfl, _, hR⟩ | ⟨_, hx, _⟩
    rotate_left
    · exact absurd hA.out hx
    have hKD : KellsAt wD2 (.slice (some ⟨A, 0, none⟩) np np) (cellsL 0 np f2) := by
      unfold cellsL; rw [if_pos rfl]; exact hR.list np
    clear hra hoD1 hoD2 hR
    go_wp2_with fail
    refine (hao.out wD2 hoD).mono ?_
    rintro e wE ⟨vE, rfl, hoE, hxE⟩
    have HKE := Lib.hid (cellsL_row (G := 0) (hxE.imp_right (fun h => ⟨rfl, h.2⟩)))
    have HKD2 := Lib.hid (hKD.same hoE)
    have hoEw := hoD.trans hoE (by simp)
    have hse := same_errV 0 wE (HG.out.only (HAL.out.trans hoEw (by simp)))
    clear hao hxE hoE hKD hoD
    go_wp2_with fail
    refine hse.mono ?_
    rintro e wF ⟨rfl, hoF⟩
    have hsk := same_kells _ _ _ wF (HKE.out.same hoF) (HKD2.out.same hoF) hln
    have hoFw := hoEw.trans hoF (by simp)
    clear hse HKE HKD2 hoF hoEw hln
    go_wp2_with fail
    refine hsk.mono ?_
    rintro e wH ⟨rfl, dH, rfl⟩
    have hoHw := hoFw.drewN dH
    clear hsk hoFw
    obtain ⟨wH, hwH⟩ : ∃ wH, wF.drewN dH = wH := ⟨_, rfl⟩
    rw [hwH] at hoHw ⊢
    clear hwH
    have q1 := (hBX.out.only hoHw (by simp)).cell 1 _ rfl
    go_upto_region 34 with (fail)
    clear q1
    have hCq := Cells.new wH #[.int .i64 l0.n, .bool false] 54
    have hoI := hoHw.trans ((Only.refl [] wH).alloc (.cells #[.int .i64 l0.n, .bool false] 54)) (by simp)
    obtain ⟨wI, hwI⟩ : ∃ wI, wH.alloc (.cells #[.int .i64 l0.n, .bool false] 54) = wI := ⟨_, rfl⟩
    rw [hwI] at hCq hoI ⊢
    have i0 := hCq.cell 0 _ rfl
    have i1 := hCq.cell 1 _ rfl
    have j0 : wI.drew.cell? ⟨wH.heap.size, 0, none⟩ = some (.int .i64 l0.n) := i0
    have j1 : wI.drew.cell? ⟨wH.heap.size, 1, none⟩ = some (.bool false) := i1
    have hoId := hoI.drew
    have hck := fun W => cells_Check ⟨l0.n, false⟩ W
    have hcl := fun W => ref_Cell ⟨l0.n, false⟩ W
    obtain ⟨cf, hcf⟩ : ∃ c, ceFault ⟨l0.n, false⟩ = c := ⟨_, rfl⟩
    rw [hcf] at hck hcl
    simp only [ceV] at hck hcl
    have HCK := Lib.hid hck
    have HCL := Lib.hid hcl
    have HGW := Lib.hid (fun W (h : Only [] w1 W) => same_errV cf W (HG.out.only (HAL.out.trans h (by simp))))
    clear hcf hck hcl hoI hCq hwI
    go_region_law (first
      | (go_simp; go_at_call 25; refine (HCK.out _).mono ?_; rintro e wG1 ⟨rfl, hoG1⟩; have k0 := (hoG1.cell (p := ⟨wH.heap.size, 0, none⟩) (cell_lt (by assumption)) (by simp)).trans (by assumption); have k1 := (hoG1.cell (p := ⟨wH.heap.size, 1, none⟩) (cell_lt (by assumption)) (by simp)).trans (by assumption))
      | (go_simp; go_at_call 15; refine (HCL.out _).mono ?_; rintro e wG2 ⟨rfl, hoG2⟩; have n0 := (hoG2.cell (p := ⟨wH.heap.size, 0, none⟩) (cell_lt (by assumption)) (by simp)).trans (by assumption); have n1 := (hoG2.cell (p := ⟨wH.heap.size, 1, none⟩) (cell_lt (by assumption)) (by simp)).trans (by assumption))
      | (go_simp; go_at_call 8; refine (HGW.out _ (by first | exact (hoId.trans hoG1 (by simp)).trans hoG2 (by simp) | exact (hoId.trans hoG2 (by simp)).trans hoG1 (by simp))).mono ?_; rintro e wZ ⟨rfl, hoZ⟩; have hoZw : Only [] w1 wZ := by first | exact ((hoId.trans hoG1 (by simp)).trans hoG2 (by simp)).trans hoZ (by simp) | exact ((hoId.trans hoG2 (by simp)).trans hoG1 (by simp)).trans hoZ (by simp)))
    all_goals
      have hfin := Lib.hid (HAL.out.trans hoZw (by simp))
      go_wp2
      go_ret
      exact ⟨by rfl, hfin.out.below (Nat.le_refl _) (by simp)⟩

end Go.Proofs.YtmopbimineoogaaDoor.cellsTell
