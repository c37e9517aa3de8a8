/-
  Contracts of yardref2.Ops and yardref2.Along.
-/
import Derived.Test.YtmopbimineoogaaDoorP18CellsTell
import Derived.Test.YtmopbimineoogaaDoorP23CellsTell
import Derived.Test.YtmopbimineoogaaDoorP24CellsTell
import Derived.Test.YtmopbimineoogaaDoorP26CellsTell
namespace Go.Proofs.YtmopbimineoogaaDoor
open Go.RowKit Go.Deep

set_option maxRecDepth 100000 in
set_option maxHeartbeats 8000000 in
theorem ref_Along (v u ov : Value) (p : PlanL) (ops : List Opn) (o : List Nat) (w : World) (h : InPlan w v p) (hok : PlanOk p) (hu : OpsAt w u ops) (hops : ∀ x ∈ ops, opOk x) (hl : ops.length = p.length)
    (hord : Reads w ov (natL o)) (hon : ∀ x ∈ o, x < p.length) (hol : o.length ≤ 1000) :
    Calls Tryd.prog 19 #[v, u, ov] w fun e w' => ∃ v' b, e = .returned (.tuple #[v', .bool b]) ∧ Only [] w w' ∧
      ((b = true ∧ aheadB p o ∧ ∃ A, v' = .slice (some ⟨A, 0, none⟩) p.length p.length ∧ w.heap.size ≤ A ∧ RowCl w' A p.length (foldA p ops o)) ∨ (b = false ∧ ¬ aheadB p o ∧ v' = .slice none 0 0)) := by
  have HP := Lib.hid h
  have HO := Lib.hid hok
  have HOPS := Lib.hid hops
  have HON := Lib.hid hon
  have HNO := Lib.hid hok.needsOk
  have h30 := hok.len
  obtain ⟨pa, pc, rfl, hpc, _⟩ := h.task
  obtain ⟨ua, uc, rfl, hua⟩ := hu.opt
  obtain ⟨oa, oc, rfl, hoa⟩ := hord.opt
  obtain ⟨n, hn⟩ : ∃ n, p.length = n := ⟨_, rfl⟩
  obtain ⟨m, hm⟩ : ∃ m, o.length = m := ⟨_, rfl⟩
  have HL := Lib.hid hn
  have HM := Lib.hid hm
  have HFR := Lib.hid (fun (i A : Nat) (D : Nat → Bool) w' (ho : Only [] w w') (hB : Bools w' A n D) (hi : i < p.length) => ref_Free _ p i A n D w' (HP.out.same ho) HNO.out hB hi hn)
  rw [natL_len] at hoa ⊢
  rw [hl, hn] at hua ⊢
  rw [hn] at h30 HP HFR hpc
  rw [hm] at hoa hol ⊢
  have HUA := Lib.hid hua
  have HOA := Lib.hid hoa
  have hmk1 := make_cl n (by omega)
  have hmk2 := make_bools n (by omega)
  have HUL : Hid (ops.length = n) := by show _ = _; rw [hl]; exact hn
  have nA := made_cl w n
  have nD := made_bools (w.alloc (.cells (madeCells #[.int .i64 0, .bool false] (n * 2)) 54)) n
  have nA := nA.only ((Only.refl [] _).alloc (.cells (madeCells #[.bool false] n) 4)) (by simp)
  rw [World.size_alloc] at nD
  have ho1 := ((Only.refl [] w).alloc (.cells (madeCells #[.int .i64 0, .bool false] (n * 2)) 54)).alloc (.cells (madeCells #[.bool false] n) 4)
  have hsz1 : w.heap.size + 2 = ((w.alloc (.cells (madeCells #[.int .i64 0, .bool false] (n * 2)) 54)).alloc (.cells (madeCells #[.bool false] n) 4)).heap.size := by simp
  clear h hok hops hon hu hord hua hoa hn hm hl
  go_enter Tryd.func19, Tryd.ntmps19
  go_wp2_with fail
  obtain ⟨A, hA⟩ : ∃ A, w.heap.size = A := ⟨_, rfl⟩
  have HAW := Lib.hid hA
  rw [hA] at nA nD hsz1 ⊢
  clear hA hmk1 hmk2
  go_loopw [10, 11, 12, 13, 14, 15] (fun vi _ _ _ _ _ wr => ∃ j : Nat, j ≤ m ∧ vi = .int .i64 j ∧ RowCl wr A n (foldA p ops (o.take j)) ∧ Bools wr (A + 1) n (fun t => decide (t ∈ o.take j)) ∧ aheadB p (o.take j) ∧ Only [] w wr ∧ A + 2 ≤ wr.heap.size) (fun vi _ _ _ _ _ _ => m - (intOf vi).toNat)
  case atStart => exact ⟨0, Nat.zero_le _, rfl, nA, by simpa using nD, fun k hk => by simp at hk, ho1, by omega⟩
  case round =>
    clear nA nD ho1 hsz1
    obtain ⟨wo, rfl⟩ : ∃ wo : World, wo = wr := ⟨_, rfl⟩
    obtain ⟨j, hj, rfl, nA, nD, hah, ho, hA2⟩ := hrel
    have HAH := Lib.hid hah
    clear hah
    by_cases hjm : j < m
    · have hjl : j < o.length := by rw [HM.out]; exact hjm
      obtain ⟨ob, oo, rfl, k0⟩ := HOA.out j hjm
      have hxx : nth (natL o) j = ((o[j] : Nat) : Int) := natL_nth _ _ hjl
      rw [hxx] at k0
      have hxn := HON.out _ (List.getElem_mem hjl)
      have HTK : Hid (o.take (j + 1) = o.take j ++ [o[j]]) := List.take_succ_eq_append_getElem hjl
      have HGET : Hid (o[j]?.getD 0 = o[j]) := by show _ = _; rw [List.getElem?_eq_getElem hjl]; rfl
      obtain ⟨x, hx⟩ : ∃ x, o[j] = x := ⟨_, rfl⟩
      rw [hx] at k0 hxn HTK HGET
      obtain ⟨lj, hlj⟩ : ∃ lj, o.take j = lj := ⟨_, rfl⟩
      have HLJ := Lib.hid hlj
      rw [hlj] at nA nD HAH HTK
      have hfree := HFR.out x (A + 1) (fun t => decide (t ∈ lj)) wo ho nD (by have := HL.out; omega)
      rw [HL.out] at hxn
      obtain ⟨f, hf⟩ : ∃ f, foldA p ops lj = f := ⟨_, rfl⟩
      have HF := Lib.hid hf
      rw [hf] at nA
      have cX := (ho.cell (p := ⟨ob, _, none⟩) (cell_lt k0) (by simp)).trans k0
      have HNA := Lib.hid nA
      have HND := Lib.hid nD
      obtain ⟨pb, po, rfl⟩ := HP.out.any x (by rw [HL.out]; exact hxn)
      obtain ⟨na, nc, _, cN, hNR⟩ := (HP.out.same ho).at x (by rw [HL.out]; exact hxn)
      obtain ⟨na', nc', hne', hncell⟩ := hNR.opt
      injection hne' with e1 _ e2
      subst e1 e2
      have HNC := Lib.hid hncell
      have HNB := Lib.hid (fun y (hy : y ∈ ndOf p x) => HO.out.need x y hy)
      have hnl30 : (ndOf p x).length ≤ 30 := by
        have := need_len (HO.out.rise x) (fun k hk => HO.out.need x k hk)
        rw [HL.out] at this; omega
      have HFD : Hid (freeB p (fun t => decide (t ∈ lj)) x = (ndOf p x).all fun k => decide (k.toNat ∈ lj)) := rfl
      obtain ⟨nd, hnd⟩ : ∃ nd, ndOf p x = nd := ⟨_, rfl⟩
      have HNDX := Lib.hid hnd
      rw [hnd] at cN HNC HNB hnl30 HFD
      obtain ⟨nl, hnl⟩ : ∃ nl, nd.length = nl := ⟨_, rfl⟩
      have HNL := Lib.hid hnl
      rw [hnl] at cN HNC hnl30
      obtain ⟨fr, hfr⟩ : ∃ fr, freeB p (fun t => decide (t ∈ lj)) x = fr := ⟨_, rfl⟩
      rw [hfr] at hfree HFD
      clear hx hxx hlj hf hncell hNR hnd hnl k0 nA nD hfr
      cases fr with
      | false =>
        have hno : Hid (¬ aheadB p o) := fun hh => by
          have h1 := HFD.out
          have : (nd.all fun k => decide (k.toNat ∈ lj)) = true := by
            rw [List.all_eq_true]
            intro y hy
            have h2 := hh j hjl y (by rw [HGET.out, HNDX.out]; exact hy)
            rw [HLJ.out] at h2
            simpa using h2
          rw [this] at h1; cases h1
        go_wp2_with fail
        refine hfree.mono ?_
        rintro e w9 ⟨rfl, rfl⟩
        clear hfree
        go_wp2
        go_ret2
        exact ⟨_, false, rfl, ho, .inr ⟨rfl, hno.out, rfl⟩⟩
      | true =>
      have HDN : Hid (∀ i, i < nl → (nth nd i).toNat ∈ lj) := fun i hi => by
        have h1 := List.all_eq_true.1 HFD.out.symm (nth nd i) (by have : i < nd.length := by rw [HNL.out]; exact hi
                                                                  simp [nth, this])
        simpa using h1
      go_wp2_with fail
      refine hfree.mono ?_
      rintro e w9 ⟨rfl, rfl⟩
      clear hfree
      go_wp2_with fail
      go_loopw [13, 14] (fun vin vq wr => ∃ q : Nat, q ≤ nl ∧ vq = .int .i64 q ∧ wr.ownsRow w9.heap.size 54 2 vin q (flatCl ((nd.take q).map fun k => f k.toNat)) ∧ Only [] w9 wr) (fun _ vq _ => nl - (intOf vq).toNat)
      case atStart => exact ⟨0, Nat.zero_le _, rfl, World.ownsRow_nil _ _ _ _, Only.refl _ _⟩
      case round =>
        obtain ⟨q, hq, rfl, hI, ho2⟩ := hrel
        have cN2 := (ho2.cell (p := ⟨pb, po + x * 2 + 1, none⟩) (cell_lt cN) (by simp)).trans cN
        by_cases hqn : q < nl
        · have hql : q < nd.length := by rw [HNL.out]; exact hqn
          obtain ⟨nb, no, rfl, c0⟩ := HNC.out q hqn
          have hmem : nth nd q ∈ nd := by simp [nth, hql]
          obtain ⟨hy0, hyn⟩ := HNB.out _ hmem
          obtain ⟨k, hk⟩ := Int.eq_ofNat_of_zero_le hy0
          rw [hk] at c0 hyn
          have hkn : k < n := by rw [HL.out] at hyn; omega
          have HK := Lib.hid hk
          have cY := (ho2.cell (p := ⟨nb, _, none⟩) (cell_lt c0) (by simp)).trans c0
          obtain ⟨cA0, cA1⟩ := (HNA.out.only ho2 (by simp)).at k hkn
          obtain ⟨ck, hck⟩ : ∃ ck, f k = ck := ⟨_, rfl⟩
          rw [hck] at cA0 cA1
          have HCK := Lib.hid hck
          obtain ⟨cn, cb⟩ := ck
          simp only at cA0 cA1
          clear hk c0 hy0 hyn hck
          have hfar := Row.far hI
          have hone : Hid (RowAt (wr.alloc (.cells #[.int .i64 cn, .bool cb] 54)) (.slice (some ⟨wr.heap.size, 0, none⟩) 1 1) 1 2 [.int .i64 cn, .bool cb]) :=
            RowAt.one (cs := #[.int .i64 cn, .bool cb]) (by have h := heap_alloc_new wr (.cells #[.int .i64 cn, .bool cb] 54); simpa using h) rfl (by intro y hy; simp at hy; rcases hy with rfl | rfl <;> rfl)
          have hpush : Hid (flatCl ((nd.take q).map fun k => f k.toNat) ++ [.int .i64 cn, .bool cb] = flatCl ((nd.take (q + 1)).map fun k => f k.toNat)) := by
            show _ = _
            have e : nd.take (q + 1) = nd.take q ++ [nth nd q] := by rw [List.take_succ_eq_append_getElem hql]; simp [nth, hql]
            have e2 : f (nth nd q).toNat = ⟨cn, cb⟩ := by rw [HK.out]; exact HCK.out
            rw [e, List.map_append, List.map_singleton, e2]
            exact flatCl_push _ ⟨cn, cb⟩
          have hsz := ho2.size
          have HI := Lib.hid hI
          have HO2 := Lib.hid ho2
          clear hI ho2
          go_wp2_with (at_builtin; refine wpList_append_rows sliceOf_cl rfl (.tmp 48) (.tmp 60) rfl wr w9.heap.size _ q _ _ 1 _ HI.out hone.out (by omega) hsz rfl rfl ((Only.refl [] _).alloc _) ?_; intro v3 w3 hI3 hO3 hK3)
          rw [hpush.out] at hI3
          have HI3 := Lib.hid hI3
          have ho3 : Hid (Only [] w9 w3) := HO2.out.trans hO3 (fun x hx hl => by have := (hfar x hx).1; omega)
          clear hI3 hO3 hK3
          go_roundw
          case rel => exact ⟨q + 1, by omega, by go_num, HI3.out, ho3.out⟩
          case measure => (simp [intOf]; try omega)
        · obtain rfl : q = nl := by omega
          have htk : nd.take q = nd := List.take_of_length_le (by rw [HNL.out]; exact Nat.le_refl _)
          rw [htk] at hI
          have hlen : (nd.map fun k => f k.toNat).length = q := by rw [List.length_map]; exact HNL.out
          have hat : KellsAt wr u13 (nd.map fun k => f k.toNat) := by
            have := Row.at hI (flatCl_one _)
            unfold KellsAt
            rw [hlen]; exact this
          have hcs : ∀ c ∈ nd.map fun k => f k.toNat, ceOk c := fun c hc => by
            obtain ⟨k, _, rfl⟩ := List.mem_map.1 hc
            rw [← HF.out]
            exact foldA_ok p ops lj HOPS.out (fun y hy => by
              rw [HUL.out, ← HL.out]
              rw [← HLJ.out] at hy
              exact HON.out y (List.mem_of_mem_take hy)) _
          obtain ⟨b, off, rfl, k0, k1⟩ := HUA.out x hxn
          have ho3 := ho.trans ho2 (by simp)
          have c0 := (ho3.cell (p := ⟨b, _, none⟩) (cell_lt k0) (by simp)).trans k0
          have c1 := (ho3.cell (p := ⟨b, _, none⟩) (cell_lt k1) (by simp)).trans k1
          have hop := HOPS.out _ (opAt_mem (bs := ops) (k := x) (by rw [HUL.out]; exact hxn))
          obtain ⟨op, hopx⟩ : ∃ op, opAt ops x = op := ⟨_, rfl⟩
          rw [hopx] at c0 c1 hop
          have HOX := Lib.hid hopx
          have hdo := ref_Do op u13 _ wr hop hat hcs (by rw [hlen]; omega)
          obtain ⟨cc, hcc⟩ : ∃ cc, doC op (nd.map fun k => f k.toNat) = cc := ⟨_, rfl⟩
          rw [hcc] at hdo
          have hstep : Hid (foldA p ops (o.take (j + 1)) = updCl f x cc) := by
            show _ = _
            rw [HTK.out, foldA_snoc, HF.out]
            unfold stepA needC
            rw [HNDX.out, HOX.out, hcc]
          have hahn : Hid (aheadB p (o.take (j + 1))) := by
            show aheadB p _
            rw [HTK.out]
            refine ahead_push HAH.out fun y hy => ?_
            rw [HNDX.out] at hy
            obtain ⟨i, hi⟩ := List.getElem?_of_mem hy
            have hil : i < nd.length := (List.getElem?_eq_some_iff.1 hi).1
            have := HDN.out i (by rw [HNL.out] at hil; exact hil)
            have e : nth nd i = y := by simp [nth, hi]
            rwa [e] at this
          obtain ⟨cn, cb⟩ := cc
          obtain ⟨wh, nn⟩ := op
          simp only [opV, ceV] at hdo c0 c1
          have hDset : Hid ((fun t => decide (t ∈ o.take (j + 1))) = fun t => if t = x then true else decide (t ∈ lj)) := by
            show _ = _
            funext t
            rw [HTK.out]
            by_cases e : t = x <;> simp [e]
          have HO2 := Lib.hid ho2
          clear hI hat hcs hlen htk k0 k1 hop hopx hcc ho2
          go_wp2_with fail
          refine hdo.mono ?_
          rintro e w10 ⟨rfl, ho9⟩
          have hal := (Only.refl [] w10).alloc (.cells #[.int .i64 cn, .bool cb] 54)
          have how := ((ho3.trans ho9 (by simp)).trans hal (by simp))
          have hwo : Only [] w9 (w10.alloc (.cells #[.int .i64 cn, .bool cb] 54)) := (HO2.out.trans ho9 (by simp)).trans hal (by simp)
          have nA := HNA.out.only hwo (by simp)
          have nD := HND.out.only hwo (by simp)
          obtain ⟨a0, a1⟩ := nA.at x hxn
          have g0 : (w10.alloc (.cells #[.int .i64 cn, .bool cb] 54)).frozen? ⟨A, x * 2, none⟩ = false := (nA x hxn 0 _ rfl).2
          have g1 := (nA x hxn 1 _ rfl).2
          have d0 := (nD x hxn).1
          have d1 := (nD x hxn).2
          obtain ⟨wz, hwz⟩ : ∃ wz, (((w10.alloc (.cells #[.int .i64 cn, .bool cb] 54)).setCell ⟨A, x * 2, none⟩ (.int .i64 cn)).setCell ⟨A, x * 2 + 1, none⟩ (.bool cb)).setCell ⟨A + 1, x, none⟩ (.bool true) = wz := ⟨_, rfl⟩
          have hoz : Only [A, A + 1] (w10.alloc (.cells #[.int .i64 cn, .bool cb] 54)) wz := by
            rw [← hwz]
            exact (((Only.refl [A, A + 1] _).setCell (by simp) _).setCell (by simp) _).setCell (by simp) _
          have rA : RowCl wz A n (foldA p ops (o.take (j + 1))) := by
            rw [hstep.out, ← hwz]
            exact RowCl.only (nA.set x hxn ⟨cn, cb⟩) ((Only.refl [A + 1] _).setCell (by simp) _) (by simp)
          have rD : Bools wz (A + 1) n (fun t => decide (t ∈ o.take (j + 1))) := by
            rw [hDset.out, ← hwz]
            exact (nD.only (((Only.refl [A] (w10.alloc (.cells #[.int .i64 cn, .bool cb] 54))).setCell (p := ⟨A, x * 2, none⟩) (by simp) (.int .i64 cn)).setCell (p := ⟨A, x * 2 + 1, none⟩) (by simp) (.bool cb)) (by simp)).set x true
          have rO : Only [] w wz := how.trans hoz (fun a ha hl => by have := HAW.out; simp at ha; omega)
          have rS : Hid (A + 2 ≤ wz.heap.size) := by show _ ≤ _; have := hoz.size; have := hwo.size; omega
          have RA := Lib.hid rA
          have RD := Lib.hid rD
          have RO := Lib.hid rO
          clear hdo hwo nA nD rA rD rO hoz how ho9 hstep hDset ho3 HNA HND hal
          go_wp2
          go_roundw
          case rel => exact ⟨j + 1, by omega, by go_num, RA.out, RD.out, hahn.out, RO.out, rS.out⟩
          case measure => (simp [intOf]; try omega)
    · obtain rfl : j = m := by omega
      have htk : o.take j = o := List.take_of_length_le (by rw [HM.out]; exact Nat.le_refl _)
      rw [htk] at HAH nA
      have HNA := Lib.hid nA
      clear nA nD htk
      go_wp2
      go_ret2
      exact ⟨_, true, rfl, ho, .inl ⟨rfl, HAH.out, A, rfl, by first | omega | (have := HAW.out; omega), HNA.out⟩⟩

end Go.Proofs.YtmopbimineoogaaDoor
