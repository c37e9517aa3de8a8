/-
  Contract of trace.read.
  Regions that draw their order, in a round of a range over a function: reads first, then one thing that writes. No program is named here.
-/
import Derived.Test.YtoofalchkedciaaGreatDoorP39TopGang
import Derived.Test.YtoofalchkedciaaGreatDoorP40TopGang
import Derived.Test.YtoofalchkedciaaGreatDoorP31TopGang
import Derived.StillTailTactics
import Derived.OrdersIn
namespace Go.Proofs.YtoofalchkedciaaGreatDoor
open Go.RowKit Go.Deep

theorem load_ddat (W : World) (B : Nat) (x y z u : Int) (h : Cells W B [.int .i64 x, .int .i64 y, .int .i64 z, .int .i64 u]) : (loadVar 53 ⟨B, 0, none⟩).run Tryz.prog W = .ok (.agg #[.int .i64 x, .int .i64 y, .int .i64 z, .int .i64 u]) W := by
  have c0 := h.cell 0 _ rfl
  have c1 := h.cell 1 _ rfl
  have c2 := h.cell 2 _ rfl
  have c3 := h.cell 3 _ rfl
  go_simp
theorem end_deed {w wr : World} {B : Nat} {a b c d : Value} (hB : Cells wr B [a, b, c, d]) (hw : w.heap.size ≤ B) (ho : Only [] w wr) (x y z u : Value) :
    Cells ((((wr.setCell ⟨B, 0, none⟩ x).setCell ⟨B, 1, none⟩ y).setCell ⟨B, 2, none⟩ z).setCell ⟨B, 3, none⟩ u) B [x, y, z, u] ∧ Only [] w ((((wr.setCell ⟨B, 0, none⟩ x).setCell ⟨B, 1, none⟩ y).setCell ⟨B, 2, none⟩ z).setCell ⟨B, 3, none⟩ u) := by
  refine ⟨?_, (((ho.setCell (p := ⟨B, 0, none⟩) (fun h => by simp at h; omega) x).setCell (p := ⟨B, 1, none⟩) (fun h => by simp at h; omega) y).setCell (p := ⟨B, 2, none⟩) (fun h => by simp at h; omega) z).setCell (p := ⟨B, 3, none⟩) (fun h => by simp at h; omega) u⟩
  have h1 := (((hB.set 0 x).set 1 y).set 2 z).set 3 u
  exact h1

/-- The deed of a word and one number more. -/
theorem ddOf_push (k : Nat) (ns : List Nat) (v : Nat) (h : ns.length < 3) : ddCells (ddOf k (ns ++ [v])) = (ddCells (ddOf k ns)).set (ns.length + 1) (.int .i64 (v : Int)) := by
  match ns, h with
  | [], _ => simp [ddOf, ddCells]
  | [a], _ => simp [ddOf, ddCells]
  | [a, b], _ => simp [ddOf, ddCells]
theorem places_at (k : Nat) (i : Nat) (h : i < (ddPlaces (k : Int)).length) : (ddPlaces (k : Int))[i]? = some (i + 1) := by
  have hc : ddPlaces (k : Int) = [1] ∨ ddPlaces (k : Int) = [1, 2, 3] ∨ ddPlaces (k : Int) = [1, 2] := by
    unfold ddPlaces
    split
    · exact .inl rfl
    · split
      · exact .inr (.inl rfl)
      · exact .inr (.inr rfl)
  rcases hc with hc | hc | hc
  · rw [hc] at h ⊢
    match i, h with
    | 0, _ => rfl
  · rw [hc] at h ⊢
    match i, h with
    | 0, _ => rfl
    | 1, _ => rfl
    | 2, _ => rfl
  · rw [hc] at h ⊢
    match i, h with
    | 0, _ => rfl
    | 1, _ => rfl

theorem readD_of {l x : List UInt8} {r : List (List UInt8)} (h : cutL 32 l = x :: r) (hw : wordNo x ≠ 0) (hl : r.length = (ddPlaces (wordNo x : Int)).length) (ha : r.all (numOk 2) = true) : readD l = some (ddOf (wordNo x) (r.map digV)) := by
  unfold readD
  rw [h]
  simp only
  rw [if_pos ⟨hw, hl, ha⟩]
theorem readD_no {l x : List UInt8} {r : List (List UInt8)} (h : cutL 32 l = x :: r) (hn : wordNo x = 0 ∨ r.length ≠ (ddPlaces (wordNo x : Int)).length ∨ r.all (numOk 2) = false) : readD l = none := by
  unfold readD
  rw [h]
  simp only
  rw [if_neg]
  rintro ⟨h1, h2, h3⟩
  rcases hn with hn | hn | hn
  · exact h1 hn
  · exact hn h2
  · rw [h3] at hn; cases hn

def ReadDOut (w : World) (l : List UInt8) (e : Ending) (w' : World) : Prop :=
  ∃ (d : Dd) (b : Bool), e = .returned (.tuple #[.agg #[.int .i64 d.what, .int .i64 d.hand, .int .i64 d.task, .int .i64 d.other], .bool b]) ∧ Only [] w w' ∧ ((b = false ∧ readD l = none) ∨ (b = true ∧ readD l = some d))

set_option maxRecDepth 100000 in
set_option maxHeartbeats 4000000 in
theorem trace_read (s : ByteArray) (hs : s.size ≤ 1100000) (w : World) (hstd : Std w) (hwd : WordsIn w) :
    Calls Tryz.prog 70 #[.string s] w (ReadDOut w s.data.toList) := by
  have HN := Lib.hid (fun (x : ByteArray) (hx : x.size ≤ 1200000) (W : World) (hW : Only [] w W) => plan_Number x 2 (by omega) (by omega) W (hstd.only hW))
  have HWD := Lib.hid (fun (W : World) (hW : Only [] w W) => hwd.only hW)
  have HLD := Lib.hid load_ddat
  have hsl : s.data.toList.length = s.size := Array.length_toList
  have hB0 := Cells.new w #[.int .i64 0, .int .i64 0, .int .i64 0, .int .i64 0] 53
  have ho0 := (Only.refl [] w).alloc (.cells #[.int .i64 0, .int .i64 0, .int .i64 0, .int .i64 0] 53)
  obtain ⟨w0, hw0⟩ : ∃ w0, w.alloc (.cells #[.int .i64 0, .int .i64 0, .int .i64 0, .int .i64 0] 53) = w0 := ⟨_, rfl⟩
  obtain ⟨B0, hb0⟩ : ∃ B0, w.heap.size = B0 := ⟨_, rfl⟩
  rw [hw0] at hB0 ho0
  rw [hb0] at hB0
  have hbb : w.heap.size ≤ B0 := Nat.le_of_eq hb0
  have HB0 := Lib.hid hb0
  have HW0 := Lib.hid hw0
  have hsp := str_Split s 32 (by omega) w0 (hstd.only ho0)
  have hpl : (cutL 32 s.data.toList).length ≤ 1100001 := by have := cutL_len 32 s.data.toList; omega
  have hxl : ∀ i, i < (cutL 32 s.data.toList).length → (nthL (cutL 32 s.data.toList) i).length ≤ 1100000 := fun i h => by
    have := cutL_le 32 s.data.toList _ (nthL_mem h); omega
  have hne := cutL_ne 32 s.data.toList
  obtain ⟨pc, hpc⟩ : ∃ pc, cutL 32 s.data.toList = pc := ⟨_, rfl⟩
  have hstrs : cutS 32 s = pc.map fun x => (⟨x.toArray⟩ : ByteArray) := by unfold cutS; rw [hpc]
  rw [hstrs] at hsp
  rw [hpc] at hpl hxl hne
  have HPC := Lib.hid hpc
  have HXL := Lib.hid hxl
  obtain ⟨m, hm⟩ : ∃ m, (pc.map fun x => (⟨x.toArray⟩ : ByteArray)).length = m := ⟨_, rfl⟩
  have HM : Hid (pc.length = m) := by show _ = _; rw [← hm, List.length_map]
  have hm0 : 0 < m := by rw [← HM.out]; exact List.length_pos_iff.2 hne
  have hm6 : m ≤ 1100001 := by rw [← HM.out]; exact hpl
  rw [hm] at hsp
  have HBC := Lib.hid hB0
  have HO0 := Lib.hid ho0
  clear hw0 hB0 ho0 hstd hwd hsl hb0 hpc hstrs hpl hxl hne
  go_enter Tryz.func70, Tryz.ntmps70
  go_wp2_with fail
  rw [HW0.out, HB0.out]
  refine hsp.mono ?_
  rintro e w1 ⟨sa, sk, rfl, hstr, ho1⟩
  have hS : Hid (∀ i, i < m → ∃ b, sa = some ⟨b, 0, none⟩ ∧ w1.cell? ⟨b, i, none⟩ = some (.string ⟨(nthL pc i).toArray⟩)) := by
    intro i hi
    obtain ⟨a', cap', e, _, h⟩ := hstr.opt
    obtain ⟨b, e1, e2, e3⟩ := h i (by rw [hm]; exact hi)
    refine ⟨b, ?_, ?_⟩
    · injection e with e
      rw [e]; exact e1
    · rw [e3, strAt_map pc i (by rw [HM.out]; exact hi)]
  have HO1 := Lib.hid (HO0.out.trans ho1 (by simp))
  have HBC1 := Lib.hid (HBC.out.only ho1 (by simp))
  have hcap := hstr.len hm
  obtain ⟨sb, rfl, hc0⟩ := hS.out 0 hm0
  have hw1d := HWD.out w1 HO1.out
  have hglt := hw1d.lt
  have hx0 := HXL.out 0 (by rw [HM.out]; exact hm0)
  obtain ⟨x, hx⟩ : ∃ x, nthL pc 0 = x := ⟨_, rfl⟩
  rw [hx] at hc0 hx0
  have hpx : pc = x :: pc.drop 1 := by
    obtain ⟨h1, h2⟩ := nthL_get (l := pc) (i := 0) (by rw [HM.out]; exact hm0)
    have h3 := List.drop_eq_getElem_cons h1
    rw [List.drop_zero, h2, hx] at h3
    exact h3
  have HPX := Lib.hid (HPC.out.trans hpx)
  obtain ⟨xb, hxb⟩ : ∃ xb : ByteArray, (⟨x.toArray⟩ : ByteArray) = xb := ⟨_, rfl⟩
  have hxd : xb.data.toList = x := by rw [← hxb]
  rw [hxb] at hc0
  have HIDX := Lib.hid (fun (W : World) (hW : Only [] w W) => index_words xb W (HWD.out W hW))
  rw [hxd] at HIDX
  obtain ⟨k, hk⟩ : ∃ k, wordNo x = k := ⟨_, rfl⟩
  have hk6 : k ≤ 6 := by rw [← hk]; exact wordNo_le x
  rw [hk] at HIDX
  have HK := Lib.hid hk
  obtain ⟨r, hr⟩ : ∃ r, pc.drop 1 = r := ⟨_, rfl⟩
  have HR : Hid (r.length + 1 = m) := by show _ = _; rw [← hr, List.length_drop, HM.out]; omega
  have HRI : Hid (∀ i, nthL pc (i + 1) = nthL r i) := by
    intro i
    rw [← hr]
    unfold nthL
    rw [List.getElem?_drop, Nat.add_comm 1 i]
  rw [hr] at HPX
  have HSB : Hid (sb < w1.heap.size) := cell_lt hc0
  have hB1 := HBC1.out.lt
  clear hsp hstr ho1 hm hx hxb hxd hk hr hpx hx0 HBC
  have hglob : w1.heap.size ≠ 0 := by omega
  have hwk : IntKind.i64.wrap (k : Int) = (k : Int) := IntWalk.i64_in _ (by omega)
  have hc0A : (w1.alloc (.cells #[.int .i64 0, .int .i64 0, .int .i64 0, .int .i64 0] 53)).cell? ⟨sb, 0, none⟩ = some (.string xb) := by
    rw [World.cell?_alloc_lt _ _ ⟨sb, 0, none⟩ (cell_lt hc0)]; exact hc0
  obtain ⟨wA, hwA⟩ : ∃ wA, (w1.alloc (.cells #[.int .i64 (k : Int), .int .i64 0, .int .i64 0, .int .i64 0] 53)).drew = wA := ⟨_, rfl⟩
  obtain ⟨D, hD⟩ : ∃ D, w1.heap.size = D := ⟨_, rfl⟩
  have HWA := Lib.hid hwA
  have HD := Lib.hid hD
  have h1A : Only [] w1 wA := by rw [← hwA]; exact ((Only.refl [] w1).alloc _).drew
  have hCD : Cells wA D [.int .i64 (k : Int), .int .i64 0, .int .i64 0, .int .i64 0] := by
    rw [← hwA, ← hD]
    exact (Cells.new w1 #[.int .i64 (k : Int), .int .i64 0, .int .i64 0, .int .i64 0] 53).only (Only.refl [] _).drew (by simp)
  have HCD := Lib.hid hCD
  have HOA := Lib.hid (HO1.out.trans h1A (by simp))
  have HBCA := Lib.hid (HBC1.out.only h1A (by simp))
  have hSA : Hid (∀ i, i < m → wA.cell? ⟨sb, i, none⟩ = some (.string ⟨(nthL pc i).toArray⟩)) := fun i hi => by
    obtain ⟨b, e1, e2⟩ := hS.out i hi
    injection e1 with e1
    injection e1 with e1
    subst e1
    exact (h1A.cell (cell_lt e2) (by simp)).trans e2
  have hBD : B0 < D := by rw [← hD]; exact hB1
  have HOA' := Lib.hid HO1.out
  have HOB' : Hid (Only [] w (w1.alloc (.cells #[.int .i64 0, .int .i64 0, .int .i64 0, .int .i64 0] 53))) := HO1.out.alloc _
  have HSD : Hid (sb < D) := by show _ < _; rw [← hD]; exact HSB.out
  have hwD : w.heap.size ≤ D := by have := HBC1.out.lt; omega
  clear hwA hD h1A hCD hS HO1 HBC1
  go_upto_region 2 with (fail)
  go_cut [5] (fun v5 wx => v5 = .pointer (some ⟨D, 0, none⟩) ∧ wx = wA)
  case first =>
    go_region_law (first | (go_simp; go_at_call 115; refine (HIDX.out _ (by first | exact HOA'.out | exact HOB'.out | exact HOA'.out.drew | exact HOB'.out.drew)).mono ?_; rintro e w' ⟨rfl, rfl⟩))
    all_goals (go_wp2; go_meet; exact ⟨by rw [HD.out], HWA.out⟩)
  case rest =>
  obtain ⟨rfl, rfl⟩ := hcut
  have hck := HCD.out.cell 0 _ rfl
  have hfl := trace_fields D (k : Int) wc hck
  clear HIDX hc0 hc0A hglob
  go_wp2_with fail
  refine hfl.mono ?_
  rintro e w4 ⟨F, kk, rfl, hkk, hF, hFl, ho4⟩
  have HKK := Lib.hid hkk
  have hkk3 : kk ≤ 3 := by rw [hkk]; exact ddPlaces_len _
  have HF := Lib.hid hF
  have HO4 := Lib.hid (HOA.out.trans ho4 (by simp))
  have HC4 := Lib.hid (HCD.out.only ho4 (by simp))
  have HBC4 := Lib.hid (HBCA.out.only ho4 (by simp))
  have hS4 : Hid (∀ i, i < m → w4.cell? ⟨sb, i, none⟩ = some (.string ⟨(nthL pc i).toArray⟩)) := fun i hi => (ho4.cell (cell_lt (hSA.out i hi)) (by simp)).trans (hSA.out i hi)
  have hDF : D < F := by have := HCD.out.lt; omega
  have hck4 := HC4.out.cell 0 _ rfl
  have hD4 := HC4.out.lt
  clear hfl hkk hF ho4 HCD HBCA hSA HOA hck
  have hret0 : Hid (∀ wr, Only [] w wr → Cells wr B0 [.int .i64 0, .int .i64 0, .int .i64 0, .int .i64 0] → readD s.data.toList = none →
      Cells ((((wr.setCell ⟨B0, 0, none⟩ (.int .i64 0)).setCell ⟨B0, 1, none⟩ (.int .i64 0)).setCell ⟨B0, 2, none⟩ (.int .i64 0)).setCell ⟨B0, 3, none⟩ (.int .i64 0)) B0 [.int .i64 0, .int .i64 0, .int .i64 0, .int .i64 0] ∧
      ReadDOut w s.data.toList (.returned (.tuple #[.agg #[.int .i64 0, .int .i64 0, .int .i64 0, .int .i64 0], .bool false])) ((((wr.setCell ⟨B0, 0, none⟩ (.int .i64 0)).setCell ⟨B0, 1, none⟩ (.int .i64 0)).setCell ⟨B0, 2, none⟩ (.int .i64 0)).setCell ⟨B0, 3, none⟩ (.int .i64 0))) := by
    intro wr h1 h2 h3
    obtain ⟨e1, e2⟩ := end_deed h2 hbb h1 (.int .i64 0) (.int .i64 0) (.int .i64 0) (.int .i64 0)
    exact ⟨e1, ⟨0, 0, 0, 0⟩, false, rfl, e2, .inl ⟨rfl, h3⟩⟩
  by_cases hk0 : k = 0
  · have hno : readD s.data.toList = none := readD_no HPX.out (.inl (HK.out.trans hk0))
    obtain ⟨e1, e2⟩ := hret0.out w4 HO4.out HBC4.out hno
    have E1 := Lib.hid e1
    have E2 := Lib.hid e2
    have hq0 : ((k : Int) == 0) = true := by rw [hk0]; rfl
    have b0 := HBC4.out.cell 0 _ rfl
    have b1 := HBC4.out.cell 1 _ rfl
    have b2 := HBC4.out.cell 2 _ rfl
    have b3 := HBC4.out.cell 3 _ rfl
    have f0 := HBC4.out.free 0 _ rfl
    have f1 := HBC4.out.free 1 _ rfl
    have f2 := HBC4.out.free 2 _ rfl
    have f3 := HBC4.out.free 3 _ rfl
    clear e1 e2 hno hk0 hwk
    go_wp2
    refine bodyPost_ret (results_cellT' rfl _ _ _ _ rfl (HLD.out _ _ _ _ _ _ E1.out)) rfl ?_
    exact E2.out
  · have hq0 : ((k : Int) == 0) = false := by simp only [beq_eq_false_iff_ne, ne_eq]; omega
    have hwkk : IntKind.i64.wrap ((kk : Int) + 1) = (kk : Int) + 1 := IntWalk.i64_in _ (by omega)
    by_cases hlen : m = kk + 1
    · have hq1 : ((m : Int) != (kk : Int) + 1) = false := by rw [hlen]; simp
      have hrl : Hid (r.length = kk) := by show _ = _; have := HR.out; omega
      clear hret0
      go_wp2_with fail
      go_loopw [7, 8, 9, 10, 35] (fun _ _ _ _ vi wr => ∃ i : Nat, i ≤ kk ∧ vi = .int .i64 (i : Int) ∧ (r.take i).all (numOk 2) = true ∧ Cells wr D (ddCells (ddOf k ((r.take i).map digV))) ∧ Only [D] w4 wr) (fun _ _ _ _ vi _ => kk - (intOf vi).toNat)
      case atStart => exact ⟨0, Nat.zero_le _, rfl, rfl, by simpa [ddOf, ddCells] using HC4.out, Only.refl _ _⟩
      case round =>
        obtain ⟨wo, rfl⟩ : ∃ wo : World, wo = wr := ⟨_, rfl⟩
        obtain ⟨i, hi, rfl, hall, hC, ho⟩ := hrel
        have HALL := Lib.hid hall
        have HC := Lib.hid hC
        have HO := Lib.hid ho
        have HFW : Hid (Only [] w wo) := HO4.out.trans ho (fun x hx hl => by simp at hx; subst hx; omega)
        have HBo := Lib.hid (HBC4.out.only ho (by simp; omega))
        clear hall hC ho
        by_cases hik : i < kk
        · have hpl := places_at k i (by rw [← HKK.out]; exact hik)
          have hcF : wo.cell? ⟨F, i, none⟩ = some (.pointer (some ⟨D, i + 1, none⟩)) := by
            have h1 : w4.cell? ⟨F, i, none⟩ = some (.pointer (some ⟨D, i + 1, none⟩)) := obj_cell HF.out i _ (by simp [hpl])
            exact (HO.out.cell (p := ⟨F, i, none⟩) (cell_lt h1) (by simp; omega)).trans h1
          have him : i + 1 < m := by omega
          have hcw : wo.cell? ⟨sb, i + 1, none⟩ = some (.string ⟨(nthL pc (i + 1)).toArray⟩) := by
            have h1 := hS4.out (i + 1) him
            exact (HO.out.cell (p := ⟨sb, i + 1, none⟩) (cell_lt h1) (by simp; have := HSD.out; omega)).trans h1
          have hyl := HXL.out (i + 1) (by rw [HM.out]; exact him)
          rw [HRI.out i] at hcw hyl
          have hir : i < r.length := by rw [hrl.out]; exact hik
          have HTK : Hid (r.take (i + 1) = r.take i ++ [nthL r i]) := by
            obtain ⟨h1, h2⟩ := nthL_get hir
            show _ = _
            rw [List.take_succ_eq_append_getElem h1, h2]
          have HMEM := Lib.hid (nthL_mem hir)
          obtain ⟨y, hy⟩ : ∃ y, nthL r i = y := ⟨_, rfl⟩
          rw [hy] at hcw hyl HTK HMEM
          have hnum := HN.out ⟨y.toArray⟩ (by show y.toArray.size ≤ _; rw [List.size_toArray]; omega) wo HFW.out
          obtain ⟨yb, hyb⟩ : ∃ yb : ByteArray, (⟨y.toArray⟩ : ByteArray) = yb := ⟨_, rfl⟩
          have hyd : yb.data.toList = y := by rw [← hyb]
          rw [hyb] at hcw hnum
          rw [show (((2 : Nat)) : Int) = 2 from rfl] at hnum
          simp only [hyd] at hnum
          have hwi : IntKind.i64.wrap ((i : Int) + 1) = ((i + 1 : Nat) : Int) := IntWalk.i64_in _ (by omega)
          clear hy hyb hyd hpl hyl
          go_wp2_with fail
          refine hnum.mono ?_
          rintro e w5 ⟨n, rfl, hnb, hnv, ho5⟩
          have HNV := Lib.hid hnv
          have HC5 := Lib.hid (HC.out.only ho5 (by simp))
          have HO5 := Lib.hid (HO.out.trans ho5 (by simp))
          have HF5 := Lib.hid (HFW.out.trans ho5 (by simp))
          have HB5 := Lib.hid (HBo.out.only ho5 (by simp))
          clear hnum hnv ho5 hcw hcF
          cases hnk : numOk 2 y with
          | false =>
            have hno : readD s.data.toList = none := readD_no HPX.out (.inr (.inr (by
              cases h : r.all (numOk 2) with
              | false => rfl
              | true => have := List.all_eq_true.1 h y HMEM.out; rw [hnk] at this; cases this)))
            obtain ⟨e1, e2⟩ := end_deed HB5.out hbb HF5.out (.int .i64 0) (.int .i64 0) (.int .i64 0) (.int .i64 0)
            have E1 := Lib.hid e1
            have E2 : Hid (ReadDOut w s.data.toList (.returned (.tuple #[.agg #[.int .i64 0, .int .i64 0, .int .i64 0, .int .i64 0], .bool false])) ((((w5.setCell ⟨B0, 0, none⟩ (.int .i64 0)).setCell ⟨B0, 1, none⟩ (.int .i64 0)).setCell ⟨B0, 2, none⟩ (.int .i64 0)).setCell ⟨B0, 3, none⟩ (.int .i64 0))) :=
              ⟨⟨0, 0, 0, 0⟩, false, rfl, e2, .inl ⟨rfl, hno⟩⟩
            have b0 := HB5.out.cell 0 _ rfl
            have b1 := HB5.out.cell 1 _ rfl
            have b2 := HB5.out.cell 2 _ rfl
            have b3 := HB5.out.cell 3 _ rfl
            have f0 := HB5.out.free 0 _ rfl
            have f1 := HB5.out.free 1 _ rfl
            have f2 := HB5.out.free 2 _ rfl
            have f3 := HB5.out.free 3 _ rfl
            clear e1 e2 hno hnk
            go_wp2
            refine bodyPost_ret (results_cellT' rfl _ _ _ _ rfl (HLD.out _ _ _ _ _ _ E1.out)) rfl ?_
            exact E2.out
          | true =>
            have hu : ∃ u, w5.cell? ⟨D, i + 1, none⟩ = some u ∧ w5.frozen? ⟨D, i + 1, none⟩ = false := by
              have h3 : i = 0 ∨ i = 1 ∨ i = 2 := by omega
              rcases h3 with rfl | rfl | rfl
              · exact ⟨_, HC5.out.cell 1 _ rfl, HC5.out.free 1 _ rfl⟩
              · exact ⟨_, HC5.out.cell 2 _ rfl, HC5.out.free 2 _ rfl⟩
              · exact ⟨_, HC5.out.cell 3 _ rfl, HC5.out.free 3 _ rfl⟩
            obtain ⟨u, cu, fu⟩ := hu
            have hall : Hid ((r.take (i + 1)).all (numOk 2) = true) := by
              show _ = _
              rw [HTK.out, List.all_append, HALL.out]
              simpa using hnk
            have hnd := HNV.out hnk
            have hset : Hid (Cells (w5.setCell ⟨D, i + 1, none⟩ (.int .i64 n)) D (ddCells (ddOf k ((r.take (i + 1)).map digV)))) := by
              show Cells _ _ _
              have hl : ((r.take i).map digV).length = i := by rw [List.length_map, List.length_take, hrl.out]; omega
              rw [HTK.out, List.map_append, List.map_cons, List.map_nil, ddOf_push k _ _ (by omega), hl, ← hnd]
              exact HC5.out.set (i + 1) _
            have hon : Hid (Only [D] w4 (w5.setCell ⟨D, i + 1, none⟩ (.int .i64 n))) := HO5.out.setCell (fun _ => by simp) _
            clear hnk hnd
            go_wp2
            go_roundw
            case rel => exact ⟨i + 1, by omega, by go_num, hall.out, hset.out, hon.out⟩
            case measure => (simp [intOf]; try omega)
        · obtain rfl : i = kk := by omega
          have hfull : r.take i = r := List.take_of_length_le (by rw [hrl.out]; exact Nat.le_refl _)
          have hyes : readD s.data.toList = some (ddOf k (r.map digV)) := by
            have h1 := HALL.out
            rw [hfull] at h1
            have h2 := readD_of HPX.out (by rw [HK.out]; exact hk0) (by rw [HK.out, hrl.out]; exact HKK.out) h1
            rw [HK.out] at h2
            exact h2
          have hC := HC.out
          rw [hfull] at hC
          obtain ⟨d, hd⟩ : ∃ d, ddOf k (r.map digV) = d := ⟨_, rfl⟩
          rw [hd] at hC hyes
          have hC : Cells wo D [.int .i64 d.what, .int .i64 d.hand, .int .i64 d.task, .int .i64 d.other] := hC
          obtain ⟨e1, e2⟩ := end_deed HBo.out hbb HFW.out (.int .i64 d.what) (.int .i64 d.hand) (.int .i64 d.task) (.int .i64 d.other)
          have E1 := Lib.hid e1
          have E2 : Hid (ReadDOut w s.data.toList (.returned (.tuple #[.agg #[.int .i64 d.what, .int .i64 d.hand, .int .i64 d.task, .int .i64 d.other], .bool true])) ((((wo.setCell ⟨B0, 0, none⟩ (.int .i64 d.what)).setCell ⟨B0, 1, none⟩ (.int .i64 d.hand)).setCell ⟨B0, 2, none⟩ (.int .i64 d.task)).setCell ⟨B0, 3, none⟩ (.int .i64 d.other))) :=
            ⟨d, true, rfl, e2, .inr ⟨rfl, hyes⟩⟩
          have c0 := hC.cell 0 _ rfl
          have c1 := hC.cell 1 _ rfl
          have c2 := hC.cell 2 _ rfl
          have c3 := hC.cell 3 _ rfl
          have b0 := HBo.out.cell 0 _ rfl
          have b1 := HBo.out.cell 1 _ rfl
          have b2 := HBo.out.cell 2 _ rfl
          have b3 := HBo.out.cell 3 _ rfl
          have f0 := HBo.out.free 0 _ rfl
          have f1 := HBo.out.free 1 _ rfl
          have f2 := HBo.out.free 2 _ rfl
          have f3 := HBo.out.free 3 _ rfl
          clear e1 e2 hyes hC hd hfull
          go_wp2
          refine bodyPost_ret (results_cellT' rfl _ _ _ _ rfl (HLD.out _ _ _ _ _ _ E1.out)) rfl ?_
          exact E2.out
    · have hq1 : ((m : Int) != (kk : Int) + 1) = true := by simp only [bne_iff_ne, ne_eq]; omega
      have hno : readD s.data.toList = none := readD_no HPX.out (.inr (.inl (by rw [HK.out, ← HKK.out]; have := HR.out; omega)))
      obtain ⟨e1, e2⟩ := hret0.out w4 HO4.out HBC4.out hno
      have E1 := Lib.hid e1
      have E2 := Lib.hid e2
      have b0 := HBC4.out.cell 0 _ rfl
      have b1 := HBC4.out.cell 1 _ rfl
      have b2 := HBC4.out.cell 2 _ rfl
      have b3 := HBC4.out.cell 3 _ rfl
      have f0 := HBC4.out.free 0 _ rfl
      have f1 := HBC4.out.free 1 _ rfl
      have f2 := HBC4.out.free 2 _ rfl
      have f3 := HBC4.out.free 3 _ rfl
      clear e1 e2 hno hlen
      go_wp2
      refine bodyPost_ret (results_cellT' rfl _ _ _ _ rfl (HLD.out _ _ _ _ _ _ E1.out)) rfl ?_
      exact E2.out

end Go.Proofs.YtoofalchkedciaaGreatDoor

namespace Go.Proofs.YtoofalchkedciaaGreatDoor
open Go.RowKit

/-- No 'defer' statement among these. -/
def noDefer (l : List Oper) : Bool := l.all fun o => match o.op with | .defer _ => false | _ => true

theorem noDefer_at {l : List Oper} (h : noDefer l = true) {o : Oper} (ho : o ∈ l) : ∀ c, o.op ≠ .defer c := fun c hc => by
  have := (List.all_eq_true.1 h) o ho
  rw [hc] at this
  cases this

/-- What is left when no panic, and no lack of memory, is let by. -/
def onlyNormal (Q : Exit → Act → World → Prop) : Exit → Act → World → Prop := fun e a w => e = .normal ∧ Q .normal a w

theorem onlyNormal_out (Q : Exit → Act → World → Prop) : ¬ LetsOut (onlyNormal Q) := fun ⟨_, _, h, _⟩ => by cases h

theorem wpIn_round {P : Program} {l n : Nat} {o : Oper} {a : Act} {w : World} {K K' : Act → World → Prop} {Q : Exit → Act → World → Prop} (hd : ∀ c, o.op ≠ .defer c) (hK : ∀ a w, K a w → K' a w)
    (h : o.wp P a w K (onlyNormal Q)) : o.wpIn (Fence.wide.inRound l) n P a w K' Q := by
  refine ⟨fun _ _ => trivial, ?_⟩
  rw [Oper.semAt_eq _ _ _ hd]
  unfold Oper.wp at h
  generalize (execOp a.eval o).run P w = r at *
  cases r with
  | ok x w' =>
    cases x with
    | value v => exact hK _ _ h
    | skip => exact hK _ _ h
    | defer d => exact hK _ _ h
    | enter f args =>
      refine ⟨fun h => (by cases h), (CallsIn.inRound l (callsIn_wide.2 (show Calls P f args w' _ from h))).mono fun e w'' he => ?_⟩
      cases e with
      | returned v => exact hK _ _ he
      | panicked c => obtain ⟨h, _⟩ := he; cases h
      | outgrown => exact (onlyNormal_out Q he).elim
    | row rw' args =>
      refine ⟨fun h => (by cases h), fun c cs _ => ?_⟩
      obtain ⟨v, w'', hr, hs⟩ := (show Rows P rw' args w' _ from h) c cs
      exact ⟨v, w'', hK _ _ hr, by rw [fenced_inRound]; exact stepsIn_wide.2 hs⟩
    | _ => exact (show False from h).elim
  | halt x w' =>
    cases x <;> simp only [Oper.upon, Oper.uponIn] at h ⊢
    obtain ⟨h, _⟩ := h
    cases h

theorem wpAny_round {P : Program} {l n : Nat} {md : Region.Mode} {ops : Array Oper} {Q : Exit → Act → World → Prop} (hd : noDefer ops.toList = true) :
    ∀ (fuel : Nat) (listed : Array Bool) (a : Act) (w : World), wpAny P md ops (onlyNormal Q) fuel listed a w → wpAnyIn (Fence.wide.inRound l) n P md ops Q fuel listed a w := by
  intro fuel
  induction fuel with
  | zero => exact fun listed a w h => ⟨h.1, h.2.2⟩
  | succ fuel ih =>
    intro listed a w h
    refine ⟨fun h0 => (h.1 h0).2, fun i hi => ?_⟩
    have h1 := h.2 i hi
    unfold wpOp at h1
    unfold wpOpIn
    cases ho : ops[i]? with
    | none => rw [ho] at h1; exact ih _ _ _ h1
    | some o =>
      rw [ho] at h1
      have hm : o ∈ ops.toList := Array.mem_toList_iff.2 (Array.mem_of_getElem? ho)
      simp only at h1 ⊢
      split at h1
      · rename_i hw
        rw [if_pos hw]
        rcases h1 with h1 | ⟨_, h1⟩
        · exact wpIn_round (noDefer_at hd hm) (fun a w => ih _ a w) h1
        · exact (onlyNormal_out Q h1).elim
      · rename_i hw
        rw [if_neg hw]
        exact ⟨fun _ _ => trivial, ih _ _ _ h1⟩

/-- Reads, then the last n' things one behind the other. -/
theorem round_still_tail {P : Program} {r m : Nat} {id : Nat} {Q : Exit → Act → World → Prop} {a : Act} {w : World} {l : List Oper} (n : Nat) (hm : P.follows .mixedOrders = true) (hd : noDefer l = true) (hB : Region.lexTailB .any l.toArray n = true)
    (h : wpStill P l.toArray { w with drawn := w.drawn + 1 } (fun a' => wpList P l.toArray (onlyNormal Q) (l.drop n) a' { w with drawn := w.drawn + 1 }) (l.take n) a) : (Code.region id l.toArray true).wpIn (Fence.wide.inRound r) m P Q a w := by
  simp only [Region.lexTailB, Bool.and_eq_true, decide_eq_true_eq] at hB
  obtain ⟨⟨⟨⟨hsel, hn⟩, hs⟩, hc⟩, hlex⟩ := hB
  have hn' : n < l.length := by simpa using hn
  have htl : (l.take n).length = n := by simp; omega
  have hdl : (l.drop n).length = l.toArray.size - n := by simp
  have inv0 : HeadInv .any l.toArray n (Array.replicate l.toArray.size false) :=
    ⟨by simp, fun j oj _ hl => (by rw [getD_replicate_false] at hl; cases hl), fun t _ ht => getD_in (by simpa using ht) (getD_replicate_false _ _)⟩
  have H := wpAnyL_lex (md := .any) (g := l.toArray.size - n) hsel hs hc hn (l.take n) 0 _ a (fun j hj => by
    have hj' : j < n := by rw [htl] at hj; exact hj
    simp [hj']) (by simpa using htl) inv0 (by rw [htl]; exact hlex) h
  refine wpIn_region_any hm (wpAny_round (by simpa using hd) _ _ _ _ ?_)
  have := wpAny_of_head (Q' := onlyNormal Q) (g := l.toArray.size - n) (fun listed a' hL => by
    have := wpAny_of_seq (md := .any) (Q' := onlyNormal Q) (l.drop n) n listed a' { w with drawn := w.drawn + 1 } (fun j => by simp [List.getElem?_drop]) (by rw [hdl]; exact hL.1) hL.2
    rwa [hdl] at this) _ _ _ H
  rw [htl, show n + (l.toArray.size - n) = l.toArray.size by omega] at this
  exact this

end Go.Proofs.YtoofalchkedciaaGreatDoor
