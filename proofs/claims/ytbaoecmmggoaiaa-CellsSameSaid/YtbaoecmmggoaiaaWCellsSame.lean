/-
  The statement CellsSame: along any order in which nobody stands before whom it needs all tasks come to the same, and each to what its op comes to, of what it needs. No condition.
-/
import Derived.Test.YtbaoecmmggoaiaaP2CellsSame
import Derived.Test.YtbaoecmmggoaiaaP30CellsSame
import Derived.Test.YtbaoecmmggoaiaaP31CellsSame
import Derived.Test.YtbaoecmmggoaiaaP32CellsSame
import Derived.Test.YtbaoecmmggoaiaaP34CellsSame
namespace Go.Proofs.Ytbaoecmmggoaiaa.cellsSame
open Go.ChangeShapes Go.WideShapes Go.ChangeAt Go.RowKit
open Go.ChangeMaps (open_string shut_string)
set_option linter.unusedVariables false


def twoOps : List Opn := [⟨1, 5⟩, ⟨3, 3⟩]
def twoPlan : PlanL := [(1, []), (1, [0])]
theorem two_ok : PlanOk twoPlan := litOk_ok (by decide)
theorem two_fault : allFault twoPlan twoOps = 0 := allFault_ok two_ok rfl (by unfold twoOps; intro o ho; simp at ho; rcases ho with rfl | rfl <;> (unfold opOk inV; simp))
theorem two_come {f : Nat → Ce} (h : Comes twoPlan twoOps f) : f 0 = ⟨5, false⟩ ∧ f 1 = ⟨15, false⟩ := by
  have h0 : f 0 = ⟨5, false⟩ := by rw [h 0 (by decide)]; rfl
  refine ⟨h0, ?_⟩
  rw [h 1 (by decide)]
  show doC ⟨3, 3⟩ [f (0 : Int).toNat] = _
  rw [show (0 : Int).toNat = 0 from rfl, h0]
  simp [doC, foldC, inV]
theorem lit_ops (W : World) : OpsAt (W.alloc (.cells #[.int .i64 1, .int .i64 5, .int .i64 3, .int .i64 3] 24)) (.slice (some ⟨W.heap.size, 0, none⟩) 2 2) twoOps := by
  refine ⟨rfl, flatOp_one _, .inr ⟨by decide, W.heap.size, 0, 2, rfl, fun j y hy => ?_⟩⟩
  rw [Nat.zero_add, World.cell?_alloc_new]
  have : (flatOp twoOps) = [.int .i64 1, .int .i64 5, .int .i64 3, .int .i64 3] := rfl
  rw [this] at hy
  simpa using hy

theorem order_each {p : PlanL} (h : PlanOk p) : EachOf p.length (natL (orderOf p)) := by
  unfold EachOf natL
  refine List.Perm.map _ ?_
  have hl : (orderOf p).length = p.length := topo_len h p.length (Nat.le_refl _)
  refine (List.perm_ext_iff_of_nodup (topo_nodup h p.length (Nat.le_refl _)) List.nodup_range).2 fun x => ?_
  rw [List.mem_range]
  exact orderOf_mem h x
theorem along_order {p : PlanL} {ops : List Opn} (h : allFault p ops = 0) : alongFault p ops (natL (orderOf p)) = 0 := by
  obtain ⟨hok, _, _⟩ := allFault_zero h
  unfold alongFault
  rw [if_neg (by simp [h]), if_neg (by simpa using order_each hok), if_neg (by rw [natL_toNat]; simpa using (orderOf_ok hok).2.1)]
theorem along_comes {p : PlanL} {ops : List Opn} {l : List Int} (h : alongFault p ops l = 0) : Comes p ops (foldA p ops (l.map Int.toNat)) := by
  unfold alongFault at h
  by_cases h0 : allFault p ops = 0
  · rw [if_neg (by simp [h0])] at h
    by_cases h1 : EachOf p.length l
    · rw [if_neg (by simpa using h1)] at h
      by_cases h2 : aheadB p (l.map Int.toNat)
      · obtain ⟨o, rfl, hp⟩ := h1.mem
        rw [natL_toNat] at h2 ⊢
        refine foldA_comes ops ⟨(hp.nodup_iff).2 List.nodup_range, h2, fun i hi => (hp.mem_iff).2 (List.mem_range.2 hi)⟩
      · rw [if_pos h2] at h; cases h
    · rw [if_pos h1] at h; cases h
  · rw [if_pos h0] at h; exact absurd h h0

set_option maxHeartbeats 8000000 in
set_option maxRecDepth 100000 in
theorem walk (v0 : Value) (l0 : PlanL) (v1 : Value) (l1 : List Opn) (v2 : Value) (l2 : List Int) (w : World) (w0 : ArgPlan w v0 l0) (w1 : InOps w v1 l1) (w2 : SizedInts w v2 l2) :
    Calls Try.prog 5 #[v0, v1, v2] w fun e w' => e = .returned (.bool true) ∧ Below w.heap.size w w' := by
  have HP := Lib.hid w0.2
  have HU := Lib.hid w1.2.1
  have hu9 : l1.length ≤ 9223372036854775807 := by have := w1.2.2; unfold maxLen at this; omega
  have HR := Lib.hid w2.1.reads
  have hl9 := w2.2
  obtain ⟨pa, pc, rfl, _⟩ := w0.2.task
  obtain ⟨ua, uc, rfl, _⟩ := w1.2.1.opt
  obtain ⟨oa, oc, rfl, _⟩ := w2.1.opt
  have hlit1 := lit_two w
  have hlit2 := lit_ops ((w.alloc (.cells #[.int .i64 0] 3)).alloc (.cells #[.int .i64 1, .slice none 0 0, .int .i64 1, .slice (some ⟨w.heap.size, 0, none⟩) 1 1] 41))
  have hA := cells_All _ _ twoPlan twoOps _ (hlit1.same ((Only.refl [] _).alloc (.cells #[.int .i64 1, .int .i64 5, .int .i64 3, .int .i64 3] 24))) hlit2 (by decide)
  have htwo := two_come (foldA_comes twoOps (orderOf_ok two_ok))
  have ho3 := (((Only.refl [] w).alloc (.cells #[.int .i64 0] 3)).alloc (.cells #[.int .i64 1, .slice none 0 0, .int .i64 1, .slice (some ⟨w.heap.size, 0, none⟩) 1 1] 41)).alloc (.cells #[.int .i64 1, .int .i64 5, .int .i64 3, .int .i64 3] 24)
  obtain ⟨f2, hf2⟩ : ∃ f2, foldA twoPlan twoOps (orderOf twoPlan) = f2 := ⟨_, rfl⟩
  rw [two_fault, errV_zero, hf2] at hA
  rw [hf2] at htwo
  have HT := Lib.hid htwo
  rw [World.size_alloc, World.size_alloc] at hA
  have HALL := Lib.hid (fun W (ho : Only [] w W) => cells_All _ _ l0 l1 W (HP.out.same ho) (HU.out.same ho) hu9)
  have HALO := Lib.hid (fun W (ho : Only [] w W) v l (hr : Reads W v l) (hl : l.length ≤ 17592186044416) => cells_Along _ _ v l0 l1 l W (HP.out.same ho) (HU.out.same ho) hu9 hr hl)
  obtain ⟨n, hn⟩ : ∃ n, l0.length = n := ⟨_, rfl⟩
  obtain ⟨m, hm⟩ : ∃ m, l1.length = m := ⟨_, rfl⟩
  obtain ⟨q, hq⟩ : ∃ q, l2.length = q := ⟨_, rfl⟩
  have HN := Lib.hid hn
  have HM := Lib.hid hm
  have HQ := Lib.hid hq
  have hn9 : n ≤ 9223372036854775807 := by obtain ⟨_, _, _, k1, k2, _⟩ := w0.2.task; unfold maxLen at k2; omega
  rw [hn, hm] at HALL
  rw [hn, hm] at HALO
  rw [hm] at hu9
  rw [hq] at hl9
  rw [hn, hm, hq]
  clear w0 w1 w2 hlit1 hlit2 htwo hf2 hn hm hq
  go_enter Try.func5, Try.ntmps5
  go_wp2_with fail
  refine hA.mono ?_
  rintro e w1 ⟨v1, rfl, ho1, hx⟩
  have ho1 := ho3.trans ho1 (by simp)
  rcases hx with ⟨hx, _⟩ | ⟨_, A2, rfl, _, hR2⟩
  · exact absurd rfl hx
  have hR2 : RowCl w1 A2 2 f2 := hR2
  obtain ⟨c0, _⟩ := hR2.at 0 (by omega)
  obtain ⟨c1, _⟩ := hR2.at 1 (by omega)
  rw [HT.out.1] at c0
  rw [HT.out.2] at c1
  have c0 : w1.cell? ⟨A2, 0, none⟩ = some (.int .i64 5) := c0
  have c1 : w1.cell? ⟨A2, 2, none⟩ = some (.int .i64 15) := c1
  have hall := HALL.out w1 ho1
  clear hA ho3 hR2 HT
  by_cases h0 : allFault l0 l1 = 0
  · obtain ⟨hok, hl, hops⟩ := allFault_zero h0
    have hcm := foldA_comes l1 (orderOf_ok hok)
    have halo := along_order h0
    have hco := Lib.hid (fun l (h : alongFault l0 l1 l = 0) => along_comes h)
    have HONE := Lib.hid (fun (g : Nat → Ce) (h1 : Comes l0 l1 g) => comes_one hok h1 hcm)
    have HFOK := Lib.hid (fun j => foldA_ok l0 l1 (orderOf l0) hops (fun x hx => by rw [hl]; exact (orderOf_mem hok x).1 hx) j)
    have HORD := Lib.hid (fun W (ho : Only [] w W) => plan_Order_ok _ l0 W (HP.out.same ho) hok)
    have h30 := hok.len
    have HOK := Lib.hid hok
    have HOPS := Lib.hid hops
    have hnat := natL_toNat (orderOf l0)
    have hmn : m = n := by have := hl; rw [HM.out, HN.out] at this; exact this
    subst hmn
    have hxl : (natL (orderOf l0)).length ≤ 17592186044416 := by rw [natL_len]; have := topo_len hok l0.length (Nat.le_refl _); unfold orderOf; omega
    obtain ⟨f, hf⟩ : ∃ f, foldA l0 l1 (orderOf l0) = f := ⟨_, rfl⟩
    rw [hf] at hcm HONE HFOK
    rw [HN.out] at HORD HONE
    rw [h0, errV_zero, hf] at hall
    have HALOR := Lib.hid (fun W (ho : Only [] w W) v (hr : Reads W v (natL (orderOf l0))) => HALO.out W ho v _ hr hxl)
    rw [halo, errV_zero, hnat, hf] at HALOR
    have HCM := Lib.hid hcm
    rw [HN.out] at h30
    clear h0 hl hops hok halo hnat hcm hxl hf
    go_wp2_with fail
    refine hall.mono ?_
    rintro e w2 ⟨v2, rfl, ho2, hx⟩
    have ho2 := ho1.trans ho2 (by simp)
    rcases hx with ⟨hx, _⟩ | ⟨_, A, rfl, hAw, hR⟩
    · exact absurd rfl hx
    have HR2 := Lib.hid hR
    have HO2 := Lib.hid ho2
    have hAl : Hid (0 < m → A < w2.heap.size) := fun h => cell_lt (hR.at 0 h).1
    clear hall ho1 c0 c1 hR ho2 hAw
    go_wp2_with fail
    go_loopw [12, 13, 14, 15, 16, 17] (fun vi _ _ _ _ _ wr => ∃ i : Nat, i ≤ m ∧ vi = .int .i64 i ∧ Only [] w2 wr) (fun vi _ _ _ _ _ _ => m - (intOf vi).toNat)
    case atStart => exact ⟨0, Nat.zero_le _, rfl, Only.refl _ _⟩
    case round =>
      obtain ⟨wo, rfl⟩ : ∃ wo : World, wo = wr := ⟨_, rfl⟩
      obtain ⟨i, hi, rfl, ho⟩ := hrel
      have hoo := HO2.out.trans ho (by simp)
      by_cases him : i < m
      · obtain ⟨pb, po, rfl⟩ := HP.out.any i (by rw [HN.out]; exact him)
        obtain ⟨na, nc, _, cN, hNR⟩ := (HP.out.same hoo).at i (by rw [HN.out]; exact him)
        obtain ⟨na', nc', hne', hncell⟩ := hNR.opt
        injection hne' with e1 _ e2
        subst e1 e2
        have HNC := Lib.hid hncell
        have HNB := Lib.hid (fun y (hy : y ∈ ndOf l0 i) => HOK.out.need i y hy)
        have hnl30 : (ndOf l0 i).length ≤ 30 := by
          have := need_len (HOK.out.rise i) (fun k hk => HOK.out.need i k hk)
          rw [HN.out] at this; omega
        obtain ⟨nd, hnd⟩ : ∃ nd, ndOf l0 i = nd := ⟨_, rfl⟩
        have HNDX := Lib.hid hnd
        rw [hnd] at cN HNC HNB hnl30
        obtain ⟨nl, hnl⟩ : ∃ nl, nd.length = nl := ⟨_, rfl⟩
        have HNL := Lib.hid hnl
        rw [hnl] at cN HNC hnl30
        have HRo := Lib.hid (HR2.out.only ho (by simp))
        have HOO := Lib.hid hoo
        have HO := Lib.hid ho
        clear hncell hNR hnd hnl hoo ho
        go_wp2_with fail
        go_loopw [13, 14, 15] (fun vin vq _ wr => ∃ q : Nat, q ≤ nl ∧ vq = .int .i64 q ∧ wr.ownsRow wo.heap.size 34 2 vin q (flatCl ((nd.take q).map fun k => f k.toNat)) ∧ Only [] wo wr) (fun _ vq _ _ => nl - (intOf vq).toNat)
        case atStart => exact ⟨0, Nat.zero_le _, rfl, World.ownsRow_nil _ _ _ _, Only.refl _ _⟩
        case round =>
          obtain ⟨q, hq, rfl, hI, ho2⟩ := hrel
          have cN2 := (ho2.cell (p := ⟨pb, _, none⟩) (cell_lt cN) (by simp)).trans cN
          by_cases hqn : q < nl
          · have hql : q < nd.length := by rw [HNL.out]; exact hqn
            obtain ⟨nb, no, rfl, c0⟩ := HNC.out q hqn
            have hmem : nth nd q ∈ nd := by simp [nth, hql]
            obtain ⟨hy0, hyn⟩ := HNB.out _ hmem
            obtain ⟨k, hk⟩ := Int.eq_ofNat_of_zero_le hy0
            rw [hk] at c0 hyn
            have hkn : k < m := by rw [HN.out] at hyn; omega
            have HK := Lib.hid hk
            have cY := (ho2.cell (p := ⟨nb, _, none⟩) (cell_lt c0) (by simp)).trans c0
            obtain ⟨cA0, cA1⟩ := (HRo.out.only ho2 (by simp)).at k hkn
            obtain ⟨ck, hck⟩ : ∃ ck, f k = ck := ⟨_, rfl⟩
            rw [hck] at cA0 cA1
            have HCK := Lib.hid hck
            obtain ⟨cn, cb⟩ := ck
            simp only at cA0 cA1
            clear hk c0 hy0 hyn hck
            have hfar := Row.far hI
            have hone : Hid (RowAt (wr.alloc (.cells #[.int .i64 cn, .bool cb] 34)) (.slice (some ⟨wr.heap.size, 0, none⟩) 1 1) 1 2 [.int .i64 cn, .bool cb]) :=
              RowAt.one (cs := #[.int .i64 cn, .bool cb]) (by have h := heap_alloc_new wr (.cells #[.int .i64 cn, .bool cb] 34); simpa using h) rfl (by intro y hy; simp at hy; rcases hy with rfl | rfl <;> rfl)
            have hpush : Hid (flatCl ((nd.take q).map fun k => f k.toNat) ++ [.int .i64 cn, .bool cb] = flatCl ((nd.take (q + 1)).map fun k => f k.toNat)) := by
              show _ = _
              have e : nd.take (q + 1) = nd.take q ++ [nth nd q] := by rw [List.take_succ_eq_append_getElem hql]; simp [nth, hql]
              have e2 : f (nth nd q).toNat = ⟨cn, cb⟩ := by rw [HK.out]; exact HCK.out
              rw [e, List.map_append, List.map_singleton, e2]
              exact flatCl_push _ ⟨cn, cb⟩
            have hsz := ho2.size
            have HI := Lib.hid hI
            have HO2' := Lib.hid ho2
            clear hI ho2
            go_wp2_with (at_builtin; refine wpList_append_rows sliceOf_cl rfl (.tmp 109) (.tmp 114) rfl wr wo.heap.size _ q _ _ 1 _ HI.out hone.out (by omega) hsz rfl rfl ((Only.refl [] _).alloc _) ?_; intro v3 w3 hI3 hO3 hK3)
            rw [hpush.out] at hI3
            have HI3 := Lib.hid hI3
            have ho3 : Hid (Only [] wo w3) := HO2'.out.trans hO3 (fun x hx hl => by have := (hfar x hx).1; omega)
            clear hI3 hO3 hK3
            go_roundw
            case rel => exact ⟨q + 1, by omega, by go_num, HI3.out, ho3.out⟩
            case measure => (simp [intOf]; try omega)
          · obtain rfl : q = nl := by omega
            have htk : nd.take q = nd := List.take_of_length_le (by rw [HNL.out]; exact Nat.le_refl _)
            rw [htk] at hI
            have hlen : (nd.map fun k => f k.toNat).length = q := by rw [List.length_map]; exact HNL.out
            have hat : KellsAt wr u13 (nd.map fun k => f k.toNat) := by
              have := Row.at hI (flatCl_one _)
              unfold KellsAt
              rw [hlen]; exact this
            have hcs : ∀ c ∈ nd.map fun k => f k.toNat, ceOk c := fun c hc => by
              obtain ⟨k, _, rfl⟩ := List.mem_map.1 hc
              exact HFOK.out _
            have hop := HOPS.out _ (opAt_mem (bs := l1) (k := i) (by rw [HM.out]; exact him))
            have hdo := cells_Do (opAt l1 i) u13 _ wr hat (by rw [hlen]; omega)
            have hdf := doFault_ok hop (by rw [hlen]; exact hnl30) hcs
            have hres : doRes (opAt l1 i) (nd.map fun k => f k.toNat) = f i := by
              unfold doRes
              rw [if_pos hdf, HCM.out i (by rw [HN.out]; exact him)]
              unfold needC
              rw [HNDX.out]
            rw [hres, hdf, errV_zero] at hdo
            obtain ⟨ha', hcap', huu, hcc'⟩ := HU.out.opt
            injection huu with e1 _ e2
            subst e1 e2
            obtain ⟨gb, go, rfl, k0, k1⟩ := hcc' i (by rw [HM.out]; exact him)
            have hoow := HOO.out.trans ho2 (by simp)
            have c0 := (hoow.cell (p := ⟨gb, _, none⟩) (cell_lt k0) (by simp)).trans k0
            have c1 := (hoow.cell (p := ⟨gb, _, none⟩) (cell_lt k1) (by simp)).trans k1
            obtain ⟨a0, a1⟩ := (HRo.out.only ho2 (by simp)).at i him
            have hcok := HFOK.out i
            obtain ⟨ci, hci⟩ : ∃ ci, f i = ci := ⟨_, rfl⟩
            have hci' := Lib.hid hci
            rw [hci] at hdo a0 a1 hcok
            have hck := fun W => cells_Check ci W
            rw [show ceFault ci = 0 from if_pos hcok, errV_zero] at hck
            obtain ⟨op, hopx⟩ : ∃ op, opAt l1 i = op := ⟨_, rfl⟩
            rw [hopx] at hdo c0 c1
            obtain ⟨wh, nn⟩ := op
            obtain ⟨cn, cb⟩ := ci
            simp only [opV, ceV] at hdo c0 c1 a0 a1 hck
            have HRw := Lib.hid (HRo.out.only ho2 (by simp))
            have HO2' := Lib.hid ho2
            clear hI hat hcs hop hdf hres hlen htk k0 k1 hcc' hci hopx hoow ho2
            go_wp2_with fail
            refine hdo.mono ?_
            rintro e w9 ⟨rfl, ho9⟩
            obtain ⟨b0, b1⟩ := (HRw.out.only ho9 (by simp)).at i him
            have hCb := Cells.new w9 #[.int .i64 cn, .bool cb] 34
            have hal9 := (Only.refl [] w9).alloc (.cells #[.int .i64 cn, .bool cb] 34)
            have HAO := Lib.hid (HO.out.trans ((HO2'.out.trans ho9 (by simp)).trans hal9 (by simp)) (by simp))
            obtain ⟨e0, e1⟩ := (HRw.out.only (ho9.trans hal9 (by simp)) (by simp)).at i him
            obtain ⟨W, hW⟩ : ∃ W, w9.alloc (.cells #[.int .i64 cn, .bool cb] 34) = W := ⟨_, rfl⟩
            rw [hW] at hCb HAO e0 e1
            have d0 := hCb.cell 0 _ rfl
            have d1 := hCb.cell 1 _ rfl
            rw [hci'.out] at e0 e1
            clear hdo hCb hal9 ho9 b0 b1 HRw HRo HO2' HO HOO
            go_wp2_with fail
            go_still_tail 12, (by kernel_rfl)
            change wpList _ _ _ _ _ W.drew
            go_wp2_with fail
            refine (hck W.drew).mono ?_
            rintro e w8 ⟨rfl, ho8⟩
            have HEND := Lib.hid (HAO.out.drew.trans ho8 (by simp))
            clear hck ho8
            go_wp2
            go_roundw
            case rel => exact ⟨i + 1, by omega, by go_num, HEND.out⟩
            case measure => (simp [intOf]; try omega)
      · obtain rfl : i = m := by omega
        have hord := HORD.out wo hoo
        clear HORD
        go_wp2_with fail
        refine hord.mono ?_
        rintro e w3 ⟨v3, rfl, hI3, ho3'⟩
        have ho3 := hoo.trans ho3' (by simp)
        have hrd3 := hI3.reads
        obtain ⟨a3, c3, rfl, _⟩ := hI3.opt
        have hal := HALOR.out w3 ho3 _ hrd3
        clear hord hI3 hrd3
        generalize (natL (orderOf l0)).length = qq at *
        go_wp2_with fail
        refine hal.mono ?_
        rintro e w4 ⟨v4, rfl, ho4', hx⟩
        have ho4 := ho3.trans ho4' (by simp)
        rcases hx with ⟨hx, _⟩ | ⟨_, A4, rfl, _, hR4⟩
        · exact absurd rfl hx
        have ho24 := (ho.trans ho3' (by simp)).trans ho4' (by simp)
        have hk4 := hR4.list i
        have hk2 := (HR2.out.only ho24 (by simp)).list i
        have hs := same_kells _ _ _ w4 hk4 hk2 (by rw [listCl_len]; omega)
        have hal2 := Lib.hid (fun nn => HALO.out (w4.drewN nn) (ho4.drewN nn) _ l2 (HR.out.same (ho4.drewN nn)) (by rw [HQ.out]; omega))
        rw [HQ.out] at hal2
        have H24 := Lib.hid ho24
        have H4 := Lib.hid ho4
        clear hal hR4 hk4 hk2 ho4' ho3' ho24 ho4 ho3 hoo ho
        go_wp2_with fail
        refine hs.mono ?_
        rintro e w5 ⟨rfl, nn, rfl⟩
        have hal2 := hal2.out nn
        clear hs
        by_cases hz : alongFault l0 l1 l2 = 0
        · have hcm2 := hco.out l2 hz
          rw [hz, errV_zero] at hal2
          have hfe := Lib.hid (HONE.out _ hcm2)
          clear hz hcm2
          go_wp2_with fail
          refine hal2.mono ?_
          rintro e w6 ⟨v6, rfl, ho6, hx⟩
          rcases hx with ⟨hx, _⟩ | ⟨_, A6, rfl, _, hR6⟩
          · exact absurd rfl hx
          have ho26 := (H24.out.drewN nn).trans ho6 (by simp)
          have hk6 := (hR6.congr (fun j hj => hfe.out j hj)).list i
          have hk2 := (HR2.out.only ho26 (by simp)).list i
          have hs := same_kells _ _ _ w6 hk6 hk2 (by rw [listCl_len]; omega)
          have HFIN := Lib.hid (fun k => (((H4.out.drewN nn).trans ho6 (by simp)).drewN k).below (B := w.heap.size) (Nat.le_refl _) (by simp))
          clear hal2 hR6 hk6 hk2 ho26 ho6
          go_wp2_with fail
          refine hs.mono ?_
          rintro e w7 ⟨rfl, k, rfl⟩
          clear hs
          go_wp2
          go_ret
          exact ⟨rfl, HFIN.out k⟩
        · have hnz := errV_ne hz
          obtain ⟨F, hF⟩ : ∃ F, alongFault l0 l1 l2 = F := ⟨_, rfl⟩
          rw [hnz, hF] at hal2
          rw [hF] at hz
          have HZ := Lib.hid hz
          clear hnz hF hz
          go_wp2_with fail
          refine hal2.mono ?_
          rintro e w6 ⟨v6, rfl, ho6, hx⟩
          have HFIN := Lib.hid (((H4.out.drewN nn).trans ho6 (by simp)).below (B := w.heap.size) (Nat.le_refl _) (by simp))
          rcases hx with ⟨_, rfl⟩ | ⟨hx, _⟩
          · clear hal2 ho6
            go_wp2
            go_ret
            exact ⟨rfl, HFIN.out⟩
          · exact absurd hx HZ.out
  · have hnz := errV_ne h0
    obtain ⟨F, hF⟩ : ∃ F, allFault l0 l1 = F := ⟨_, rfl⟩
    rw [hnz, hF] at hall
    rw [hF] at h0
    have H0 := Lib.hid h0
    clear hnz hF h0
    go_wp2_with fail
    refine hall.mono ?_
    rintro e w2 ⟨v2, rfl, ho2, hx⟩
    have HO2 := Lib.hid ((ho1.trans ho2 (by simp)).below (B := w.heap.size) (Nat.le_refl _) (by simp))
    rcases hx with ⟨_, rfl⟩ | ⟨hx, _⟩
    · clear hall ho1 ho2
      go_wp2
      go_ret
      exact ⟨rfl, HO2.out⟩
    · exact absurd hx H0.out

end Go.Proofs.Ytbaoecmmggoaiaa.cellsSame
