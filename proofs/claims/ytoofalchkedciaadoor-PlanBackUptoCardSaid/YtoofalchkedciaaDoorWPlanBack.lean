/-
  The statement PlanBack: NOBODY BEFORE WHOM IT NEEDS, outright: in the order each task stands once, behind those that it needs; who comes after one needs it; plans are read as they were. Where what it reads is of bulk at most 1048576 (and the listed variables).
-/
import Derived.Test.YtoofalchkedciaaDoorFrame
import Derived.Test.YtoofalchkedciaaDoorLaidU
import Derived.Test.YtoofalchkedciaaDoorPParse
import Derived.Test.YtoofalchkedciaaDoorPPrint
import Derived.Test.YtoofalchkedciaaDoorPAfter
import Derived.Test.YtoofalchkedciaaDoorPlanQ
import Derived.Test.YtoofalchkedciaaDoorSameP
import Derived.Test.YtoofalchkedciaaDoorRefIn
import Derived.Test.YtoofalchkedciaaDoorLit2
import Derived.Test.YtoofalchkedciaaDoorMakeB
import Derived.Test.YtoofalchkedciaaDoorGroupP
import Derived.Test.YtoofalchkedciaaDoorJoinP
namespace Go.Proofs.YtoofalchkedciaaDoor.planBack
open Go.ChangeShapes Go.WideShapes Go.ChangeAt Go.RowKit
open Go.ChangeMaps (open_string shut_string)
set_option linter.unusedVariables false


theorem Parse_ok (s : ByteArray) (hs : s.size ≤ 1100000) (w : World) (hstd : Std w) {p : PlanL} (hr : readP s.data.toList = some p) (hf : planFault p = 0) :
    Calls Tryd.prog 5 #[.string s] w fun e w' => ∃ a c, e = .returned (.tuple #[.slice a p.length c, .nilIface]) ∧ InPlan w' (.slice a p.length c) p ∧ Only [] w w' := by
  refine (plan_Parse s hs w hstd).mono ?_
  rintro e w' ⟨ho, h | ⟨a, c, q, h1, h2, h3, h4⟩⟩
  · rw [parseF_some hr] at h
    exact absurd hf h.1
  · rw [hr] at h2
    obtain rfl := Option.some.inj h2
    exact ⟨a, c, h1, h4, ho⟩
theorem Parse_no (s : ByteArray) (hs : s.size ≤ 1100000) (w : World) (hstd : Std w) (hf : parseF s.data.toList ≠ 0) :
    Calls Tryd.prog 5 #[.string s] w fun e w' => e = .returned (.tuple #[.slice none 0 0, errV (parseF s.data.toList)]) ∧ Only [] w w' := by
  refine (plan_Parse s hs w hstd).mono ?_
  rintro e w' ⟨ho, h | ⟨a, c, q, h1, h2, h3, h4⟩⟩
  · exact ⟨h.2, ho⟩
  · rw [parseF_some h2] at hf
    exact absurd h3 hf
theorem parse_zero {l : List UInt8} (h : parseF l = 0) : ∃ p, readP l = some p ∧ planFault p = 0 := by
  unfold parseF at h
  split at h
  · cases h
  · rename_i p e
    exact ⟨p, e, h⟩

def factB : ByteArray := ⟨#[51, 32, 50, 60, 48, 32, 49, 60, 48, 44, 49]⟩
def factP : PlanL := [(3, []), (2, [0]), (1, [0, 1])]
theorem fact_read : readP factB.data.toList = some factP := by decide
theorem fact_ok : planFault factP = 0 := (planOk_iff _).1 (litOk_ok (by decide))

theorem plan_nums {p : PlanL} (h : PlanOk p) : ∀ t ∈ p, Nums4 t := by
  intro t ht
  obtain ⟨i, hi, rfl⟩ := List.getElem_of_mem ht
  have h1 := h.work i hi
  have h2 := h.need i
  have h3 := h.len
  have e : p[i] = (wkOf p i, ndOf p i) := by simp [wkOf, ndOf, hi]
  rw [e]
  exact ⟨⟨by show (0 : Int) ≤ wkOf p i; omega, by show wkOf p i < 10000; omega⟩, fun k hk => by have := h2 k hk; exact ⟨by omega, by omega⟩⟩

/-- Who stands at a place of the order: a task, not before, behind those that it needs; it comes after each of them. -/
theorem back_at {p : PlanL} (h : PlanOk p) (i : Nat) (hi : i < p.length) : ∃ x : Nat, x < p.length ∧ nth (natL (orderOf p)) i = (x : Int) ∧ x ∉ (orderOf p).take i ∧ (orderOf p).take (i + 1) = (orderOf p).take i ++ [x] ∧
    (∀ k ∈ ndOf p x, ∃ y : Nat, k = (y : Int) ∧ y < p.length ∧ y ∈ (orderOf p).take i ∧ (x : Int) ∈ natL (afterOf p k)) := by
  have hl := order_len h
  have hi' : i < (orderOf p).length := by omega
  have hx := List.getElem?_eq_getElem hi'
  obtain ⟨h1, h2⟩ := orderOf_ready h i _ hx
  refine ⟨(orderOf p)[i], h1, ?_, ?_, List.take_succ_eq_append_getElem hi', fun k hk => ?_⟩
  · simp [nth, natL, hi']
  · intro hm
    obtain ⟨j, hj, he⟩ := List.getElem_of_mem hm
    rw [List.length_take] at hj
    rw [List.getElem_take] at he
    exact (List.pairwise_iff_getElem.1 (order_nodup h)) j i (by omega) hi' (by omega) he
  · have hr := h.need _ k hk
    refine ⟨k.toNat, by omega, by omega, ?_, ?_⟩
    · unfold readyB at h2
      simp at h2
      have := h2.2 k hk
      simpa using this
    · unfold natL
      rw [List.mem_map]
      refine ⟨(orderOf p)[i], ?_, rfl⟩
      unfold afterOf
      rw [List.mem_filter]
      exact ⟨List.mem_range.2 h1, by simpa using hk⟩

set_option maxRecDepth 100000 in
set_option maxHeartbeats 4000000 in
theorem walk (v0 : Value) (l0 : PlanL) (a1 : ByteArray) (w : World) (hmax : ∃ m, w.cell? ⟨1, 0, none⟩ = some (.int .i64 m)) (htab : Lib.TabIs Tryd.prog w "internal/strconv.uint64pow10" .u64 Lib.pow10Tab) (hrange : VarErr "strconv.ErrRange" w) (hsyn : VarErr "strconv.ErrSyntax" w) (w0 : ArgPlan w v0 l0) (w1 : a1.size ≤ 1048576) :
    Calls Tryd.prog 3 #[v0, .string a1] w fun e w' => e = .returned (.bool true) ∧ Below w.heap.size w w' := by
  have hstd : Std w := ⟨hsyn, hrange, htab, hmax⟩
  have HSTD := Lib.hid hstd
  obtain ⟨hfit, hp⟩ := w0
  have HP := Lib.hid hp
  obtain ⟨a, cap, rfl, hc1, hc2, _⟩ := hp.task
  obtain ⟨n, hn⟩ : ∃ n, l0.length = n := ⟨_, rfl⟩
  have HN := Lib.hid hn
  rw [hn] at hc1 HP ⊢
  have hfact := Parse_ok factB (by decide) w hstd fact_read fact_ok
  have HPT := Lib.hid (fun (W : World) (hW : Only [] w W) => plan_Parse a1 (by omega) W (hstd.only hW))
  clear hmax htab hrange hsyn hstd hp hn hfit
  go_enter Tryd.func3, Tryd.ntmps3
  go_wp2_with fail
  refine hfact.mono ?_
  rintro e w2 ⟨fa, fc, rfl, hfp, ho2⟩
  have HO2 := Lib.hid ho2
  obtain ⟨fb, foff, rfl⟩ := hfp.any 1 (by decide)
  obtain ⟨ua1, uc1, c10, c11, _⟩ := hfp.at 1 (by decide)
  obtain ⟨ua2, uc2, c20, c21, _⟩ := hfp.at 2 (by decide)
  have e1 : wkOf factP 1 = 2 := rfl
  have e2 : (ndOf factP 2).length = 2 := rfl
  have e3 : factP.length = 3 := rfl
  rw [e1] at c10
  rw [e2] at c21
  rw [e3]
  have hpt := HPT.out w2 ho2
  clear hfact hfp ho2 e1 e2 e3 c11 c20
  go_wp2_with fail
  refine hpt.mono ?_
  rintro e w3 ⟨ho3, hc0⟩
  obtain ⟨ax, kx, cx, er, rfl, hcase⟩ : ∃ (ax : Option Addr) (kx cx : Nat) (er : Value), e = .returned (.tuple #[.slice ax kx cx, er]) ∧
      ((∃ f, f ≠ 0 ∧ er = errV f) ∨ (er = .nilIface ∧ ∃ p, planFault p = 0 ∧ InPlan w3 (.slice ax kx cx) p ∧ textP p = a1.data.toList)) := by
    rcases hc0 with ⟨h1, h2⟩ | ⟨x, c, p, h1, h2, h3, h4⟩
    · exact ⟨none, 0, 0, _, h2, .inl ⟨_, h1, rfl⟩⟩
    · exact ⟨x, _, c, .nilIface, h1, .inr ⟨rfl, p, h3, h4, (text_readP h2).1⟩⟩
  have HO3 := Lib.hid (HO2.out.trans ho3 (by simp))
  have HCASE := Lib.hid hcase
  clear hpt ho3 hcase hc0 HPT c10 c21
  obtain ⟨B, hB⟩ : ∃ B : Bool, ((B = false ∧ ∃ f, er = .iface 56 (.int .i64 f)) ∨ (B = true ∧ er = .nilIface ∧ ∃ p, planFault p = 0 ∧ InPlan w3 (.slice ax kx cx) p ∧ textP p = a1.data.toList)) := by
    rcases HCASE.out with h | h
    · obtain ⟨f, h1, h2⟩ := h
      exact ⟨false, .inl ⟨rfl, f, by rw [h2, errV_ne h1]⟩⟩
    · exact ⟨true, .inr ⟨rfl, h⟩⟩
  have HB := Lib.hid hB
  clear hB HCASE
  obtain ⟨w9, hw9⟩ : ∃ w9, w9 = w3 := ⟨_, rfl⟩
  have HW9 := Lib.hid hw9
  clear hw9
  go_upto_region 5 with (fail)
  go_cut [57, 58] (fun _ vb wx => vb = .bool B ∧ wx = w9)
  case first =>
    as_aux_lemma =>
      rcases HB.out with ⟨rfl, f, rfl⟩ | ⟨rfl, rfl, _⟩
      · go_wp2
        go_meet
        exact ⟨rfl, HW9.out.symm⟩
      · go_wp2
        go_meet
        exact ⟨rfl, HW9.out.symm⟩
  case rest =>
  obtain ⟨rfl, hwc⟩ := hcut
  obtain rfl : wc = w3 := hwc.trans HW9.out
  clear hwc HW9
  go_upto_if 58 with (fail)
  go_cut [7, 8, 9, 10] (fun _ _ _ _ wx => Only [] w wx)
  case first =>
    as_aux_lemma =>
      rcases HB.out with ⟨rfl, _⟩ | ⟨rfl, rfl, p, hf, hp, ht⟩
      · go_wp2
        go_meet
        exact HO3.out
      · have hpr := plan_Print _ p wc hp hf
        have e : (⟨(textP p).toArray⟩ : ByteArray) = a1 := by
          rw [ht]
        rw [e] at hpr
        have hself : (a1.toList == a1.toList) = true := beq_self_eq_true _
        clear hp hf ht e
        go_wp2_with fail
        refine hpr.mono ?_
        rintro e w4 ⟨rfl, ho4⟩
        have HO4 := Lib.hid (HO3.out.trans ho4 (by simp))
        clear hpr ho4
        go_wp2
        go_meet
        exact HO4.out
  case rest =>
  have HO := Lib.hid hcut
  have hrd := HP.out.same hcut
  clear HB HO3 hcut HO2
  by_cases hf : planFault l0 = 0
  · have hok := (planOk_iff l0).2 hf
    have hord := plan_Order_ok _ l0 wc hrd hok
    have h30 := hok.len
    have hol := order_len hok
    rw [HN.out] at h30 hol
    have HOK := Lib.hid hok
    have HF := Lib.hid hf
    have HOL := Lib.hid hol
    clear hrd hok hf hol
    go_wp2_with fail
    refine hord.mono ?_
    rintro e w4 ⟨v4, rfl, hI, ho4⟩
    obtain ⟨oa, oc, hv, _⟩ := hI.opt
    rw [natL_len, HOL.out] at hv
    subst hv
    have HI := Lib.hid hI
    have ho := HO.out.trans ho4 (by simp)
    have HO4 := Lib.hid ho
    have hpr := plan_Print _ l0 w4 (HP.out.same ho) HF.out
    clear hord hI ho4 ho
    go_wp2_with fail
    refine hpr.mono ?_
    rintro e w5 ⟨rfl, ho5⟩
    have ho := HO4.out.trans ho5 (by simp)
    have hpl := textP_len l0 HOK.out
    obtain ⟨T, hT⟩ : ∃ T : ByteArray, (⟨(textP l0).toArray⟩ : ByteArray) = T := ⟨_, rfl⟩
    have hTd : T.data.toList = textP l0 := by rw [← hT]
    have hTz : T.size ≤ 3000 := by
      have e : T.data.toList.length = T.size := Array.length_toList
      rw [← e, hTd]; exact hpl
    rw [hT]
    have hpp := Parse_ok T (by omega) w5 (HSTD.out.only ho) (by rw [hTd]; exact read_textP l0 (plan_nums HOK.out)) HF.out
    rw [HN.out] at hpp
    have HO5 := Lib.hid ho
    have HI5 := Lib.hid (Ints.only HI.out ho5 (by simp))
    clear hpr ho5 ho hpl hT hTd hTz HI
    go_wp2_with fail
    refine hpp.mono ?_
    rintro e w6 ⟨ya, yc, rfl, hy, ho6⟩
    have ho := HO5.out.trans ho6 (by simp)
    have hsp := same_plan (.slice ya n yc) (.slice a n cap) l0 w6 hy (HP.out.same ho) (by rw [HN.out]; omega) (fun i _ => by have := HOK.out.needs i; rw [HN.out] at this; omega)
    have HO6 := Lib.hid ho
    have HI6 := Lib.hid (Ints.only HI5.out ho6 (by simp))
    clear hpp hy ho6 ho HI5
    go_wp2_with fail
    refine hsp.mono ?_
    rintro e w7 ⟨rfl, ho7⟩
    have ho := HO6.out.trans ho7 (by simp)
    have HO7 := Lib.hid ho
    have HI7 := Lib.hid (Ints.only HI6.out ho7 (by simp))
    have hmk := make_bools n (by omega) w7
    have hBn := made_bools w7 n
    have hBz := (Only.refl [] w7).alloc (.cells (madeCells #[.bool false] n) 4)
    clear hsp ho7 ho HI6
    go_wp2_with fail
    obtain ⟨wE, hwE⟩ : ∃ wE, w7.alloc (.cells (madeCells #[.bool false] n) 4) = wE := ⟨_, rfl⟩
    obtain ⟨D, hD⟩ : ∃ D, w7.heap.size = D := ⟨_, rfl⟩
    rw [hwE, hD] at hBn
    rw [hwE] at hBz ⊢
    rw [hD]
    have hIE := Ints.only HI7.out hBz (by simp)
    have hOE : Only [] w wE := HO7.out.trans hBz (by simp)
    have hDw : w.heap.size ≤ D := by rw [← hD]; exact HO7.out.size
    have hfarE := Row.far HI7.out
    rw [hD] at hfarE
    have hC : Hid (∀ i, i < n → ∃ b, oa = some ⟨b, 0, none⟩ ∧ b < D ∧ wE.cell? ⟨b, i, none⟩ = some (.int .i64 (nth (natL (orderOf l0)) i))) := by
      intro i hi
      obtain ⟨a', c', e, h⟩ := hIE.opt
      obtain ⟨b, h1, h2⟩ := h i (by rw [natL_len, HOL.out]; exact hi)
      injection e with e
      subst e
      subst h1
      exact ⟨b, rfl, (hfarE b (by simp [own, Value.ownBlock])).2, h2⟩
    have HOE := Lib.hid hOE
    have HBN := Lib.hid hBn
    have hDl : D < wE.heap.size := by rw [← hwE, World.size_alloc, hD]; omega
    clear hmk hBn hBz hwE hD hIE hOE hfarE
    go_loopw [20, 21, 22, 23, 24, 25] (fun vi _ _ _ _ _ wr => ∃ i : Nat, i ≤ n ∧ vi = .int .i64 (i : Int) ∧ Bools wr D n (fun j => decide (j ∈ (orderOf l0).take i)) ∧ Only [D] wE wr) (fun vi _ _ _ _ _ _ => n - (intOf vi).toNat)
    case atStart => exact ⟨0, Nat.zero_le _, rfl, by simpa using HBN.out, Only.refl _ _⟩
    case round =>
      obtain ⟨wo, rfl⟩ : ∃ wo : World, wo = wr := ⟨_, rfl⟩
      obtain ⟨i, hi, rfl, hB, ho⟩ := hrel
      by_cases hin : i < n
      · obtain ⟨x, hxn, hnx, hxt, htk, hneeds⟩ := back_at HOK.out i (by rw [HN.out]; exact hin)
        rw [HN.out] at hxn hneeds
        have hwo : Only [] w wo := HOE.out.trans ho (fun x hx hl => by simp at hx; subst hx; omega)
        obtain ⟨ob, rfl, hob, hoc⟩ := hC.out i hin
        have ci : wo.cell? ⟨ob, i, none⟩ = some (.int .i64 (x : Int)) := by
          rw [← hnx]
          exact (ho.cell (p := ⟨ob, i, none⟩) (cell_lt hoc) (by simp; omega)).trans hoc
        obtain ⟨b, off, rfl⟩ := HP.out.any x (by rw [HN.out]; exact hxn)
        obtain ⟨ua, uc, c0, c1, hrd⟩ := (HP.out.same hwo).at x (by rw [HN.out]; exact hxn)
        have hml := HOK.out.needs x
        rw [HN.out] at hml
        generalize ndOf l0 x = nd at *
        obtain ⟨m, hm⟩ : ∃ m, nd.length = m := ⟨_, rfl⟩
        have HM := Lib.hid hm
        rw [hm] at c1 hrd hml
        have hbx : wo.cell? ⟨D, x, none⟩ = some (.bool false) := by
          have h : wo.cell? ⟨D, x, none⟩ = some (.bool (decide (x ∈ (orderOf l0).take i))) := (hB x hxn).1
          rw [decide_eq_false hxt] at h
          exact h
        have HB := Lib.hid hB
        have HO3 := Lib.hid ho
        have HWO := Lib.hid hwo
        have HRD := Lib.hid hrd
        have HTK := Lib.hid htk
        have HNE := Lib.hid hneeds
        have hszo := ho.size
        clear hB ho hwo hrd htk hneeds hnx hoc hm hxt
        have hdx1 : decide (n ≤ x) = false := decide_eq_false (by omega)
        have hdx2 : decide ((n : Int) ≤ (x : Int)) = false := decide_eq_false (by omega)
        have hdx3 : decide ((x : Int) < 0) = false := decide_eq_false (by omega)
        go_wp2_with fail
        go_loopw [22, 23, 24, 25] (fun vk _ _ _ wr => ∃ k : Nat, k ≤ m ∧ vk = .int .i64 (k : Int) ∧ Only [] wo wr) (fun vk _ _ _ _ => m - (intOf vk).toNat)
        case atStart => exact ⟨0, Nat.zero_le _, rfl, Only.refl _ _⟩
        case round =>
          obtain ⟨wq, rfl⟩ : ∃ wq : World, wq = wr := ⟨_, rfl⟩
          obtain ⟨k, hk, rfl, hoq⟩ := hrel
          by_cases hkm : k < m
          · obtain ⟨kb, koff, rfl, hkc⟩ : ∃ kb koff, ua = some ⟨kb, koff, none⟩ ∧ wq.cell? ⟨kb, koff + k, none⟩ = some (.int .i64 (nth nd k)) := by
              obtain ⟨a', c', e, h⟩ := (HRD.out.same hoq).opt
              obtain ⟨b, o, h1, h2⟩ := h k (by rw [HM.out]; exact hkm)
              injection e with e
              exact ⟨b, o, by rw [e]; exact h1, h2⟩
            have hmem : nth nd k ∈ nd := by
              have h1 : k < nd.length := by rw [HM.out]; exact hkm
              unfold nth
              simp only [List.getElem?_eq_getElem h1, Option.getD_some]
              exact List.getElem_mem h1
            obtain ⟨y, hy, hyn, hyt, hxa⟩ := HNE.out _ hmem
            rw [hy] at hkc hxa
            have cq : wq.cell? ⟨ob, i, none⟩ = some (.int .i64 (x : Int)) := (hoq.cell (p := ⟨ob, i, none⟩) (cell_lt ci) (by simp)).trans ci
            have by1 : wq.cell? ⟨D, y, none⟩ = some (.bool true) := by
              have h : wo.cell? ⟨D, y, none⟩ = some (.bool (decide (y ∈ (orderOf l0).take i))) := (HB.out y hyn).1
              rw [decide_eq_true hyt] at h
              exact (hoq.cell (p := ⟨D, y, none⟩) (cell_lt h) (by simp)).trans h
            have haf := plan_After_ok _ l0 (y : Int) wq (HP.out.same (HWO.out.trans hoq (by simp))) HOK.out (by omega) (by rw [HN.out]; omega)
            have hal := afterOf_len l0 (y : Int)
            rw [HN.out] at hal
            obtain ⟨L, hL⟩ : ∃ L, afterOf l0 (y : Int) = L := ⟨_, rfl⟩
            rw [hL] at haf hxa hal
            obtain ⟨z, hz⟩ : ∃ z, L.length = z := ⟨_, rfl⟩
            have HZ := Lib.hid hz
            rw [hz] at haf hal
            have HXA := Lib.hid hxa
            have HOQ := Lib.hid hoq
            clear hmem hy hyt hxa hL hz hoq
            have hdy1 : decide (n ≤ y) = false := decide_eq_false (by omega)
            have hdy2 : decide ((n : Int) ≤ (y : Int)) = false := decide_eq_false (by omega)
            go_wp2_with fail
            refine haf.mono ?_
            rintro e w10 ⟨aa, ac, rfl, hIa, ho10⟩
            have cq2 : w10.cell? ⟨ob, i, none⟩ = some (.int .i64 (x : Int)) := (ho10.cell (p := ⟨ob, i, none⟩) (cell_lt cq) (by simp)).trans cq
            have hin2 := ref_in _ (natL L) (x : Int) w10 hIa.reads (by rw [natL_len, HZ.out]; omega) true (decide_eq_true HXA.out)
            have HO10 := Lib.hid (HOQ.out.trans ho10 (by simp))
            clear haf hIa ho10
            go_wp2_with fail
            refine hin2.mono ?_
            rintro e w11 ⟨rfl, rfl⟩
            clear hin2
            go_wp2
            go_roundw
            case rel => exact ⟨k + 1, by omega, by go_num, HO10.out⟩
            case measure => (simp [intOf]; try omega)
          · obtain rfl : k = m := by omega
            have cq : wq.cell? ⟨ob, i, none⟩ = some (.int .i64 (x : Int)) := (hoq.cell (p := ⟨ob, i, none⟩) (cell_lt ci) (by simp)).trans ci
            have hBq := HB.out.only hoq (by simp)
            have cb := (hBq x hxn).1
            have fb' := (hBq x hxn).2
            have hset := hBq.set x true
            have hfe : (fun j => if j = x then true else decide (j ∈ (orderOf l0).take i)) = fun j => decide (j ∈ (orderOf l0).take (i + 1)) := by
              funext j
              rw [HTK.out]
              by_cases e : j = x
              · subst e; simp
              · simp [e]
            rw [hfe] at hset
            have hor : Only [D] wE (wq.setCell ⟨D, x, none⟩ (.bool true)) := (HO3.out.trans hoq (by simp)).setCell (fun _ => by simp) _
            have HS := Lib.hid (And.intro hset hor)
            clear hset hor hfe hBq
            go_wp2
            go_roundw
            case rel => exact ⟨i + 1, by omega, by go_num, HS.out.1, HS.out.2⟩
            case measure => (simp [intOf]; try omega)
      · obtain rfl : i = n := by omega
        have hend : Hid (Only [] w wo) := HOE.out.trans ho (fun x hx hl => by simp at hx; subst hx; omega)
        clear hB ho
        go_wp2
        go_ret
        exact ⟨rfl, hend.out.below (Nat.le_refl _) (by simp)⟩
  · have hord := plan_Order_no _ l0 wc hrd hf
    have hck := Lib.hid (fun W (hW : Only [] w W) => plan_Check _ l0 W (HP.out.same hW))
    have hf2 : Hid ((planCheck l0).2 ≠ 0) := hf
    rw [errV_ne hf] at hord
    generalize planFault l0 = f at *
    clear hrd
    go_wp2_with fail
    refine hord.mono ?_
    rintro e w4 ⟨rfl, ho4⟩
    have hck1 := hck.out w4 (HO.out.trans ho4 (by simp))
    obtain ⟨⟨ci, ce⟩, hc⟩ : ∃ x, planCheck l0 = x := ⟨_, rfl⟩
    rw [hc] at hck1 hf2
    have hce : ce ≠ 0 := hf2.out
    rw [errV_ne hce] at hck1
    have HO4 := Lib.hid (HO.out.trans ho4 (by simp))
    clear hord hck hc hf2 ho4 hf
    go_wp2_with fail
    refine hck1.mono ?_
    rintro e w5 ⟨rfl, ho5⟩
    have HO5 := Lib.hid (HO4.out.trans ho5 (by simp))
    clear hck1 ho5
    go_wp2
    go_ret
    exact ⟨rfl, HO5.out.below (Nat.le_refl _) (by simp)⟩

end Go.Proofs.YtoofalchkedciaaDoor.planBack
