/-
  The statement TraceBack: deeds are read as they were; of deeds that may have been a beginning may have been; as many tasks were had as were taken, stolen and fetched, and no more finished. Where what it reads is of bulk at most 1048576 (and the listed variables).
-/
import Derived.Test.YtoofalchkedciaaDoorP2TraceBack
import Derived.Test.YtoofalchkedciaaDoorP29TraceBack
import Derived.Test.YtoofalchkedciaaDoorP40TraceBack
import Derived.Test.YtoofalchkedciaaDoorP42TraceBack
import Derived.Test.YtoofalchkedciaaDoorP44TraceBack
import Derived.Test.YtoofalchkedciaaDoorP16TraceBack
namespace Go.Proofs.YtoofalchkedciaaDoor.traceBack
open Go.ChangeShapes Go.WideShapes Go.ChangeAt Go.RowKit
open Go.ChangeMaps (open_string shut_string)
set_option linter.unusedVariables false


theorem mk_data' (s : ByteArray) : (⟨s.data.toList.toArray⟩ : ByteArray) = s := by
  cases s
  simp
theorem dParse_ok (s : ByteArray) (hs : s.size ≤ 1100000) (w : World) (hstd : Std w) (hwd : WordsIn w) {q : List Dd} (hr : readDT s.data.toList = some q) (hf : ddsFault q = 0) :
    Calls Tryd.prog 12 #[.string s] w fun e w' => ∃ v, e = .returned (.tuple #[v, .nilIface]) ∧ OwnDeeds w' w.heap.size v q ∧ Only [] w w' := by
  refine (trace_Parse s hs w hstd hwd).mono ?_
  rintro e w' ⟨ho, h | ⟨v, q', h1, h2, h3, h4⟩⟩
  · rw [dparseF_some hr] at h
    exact absurd hf h.1
  · rw [hr] at h2
    obtain rfl := Option.some.inj h2
    exact ⟨v, h1, h4, ho⟩

def factB : ByteArray := ⟨#[116, 111, 111, 107, 32, 49, 32, 50, 10, 115, 116, 111, 108, 101, 32, 48, 32, 51, 32, 49, 10, 115, 108, 101, 112, 116, 32, 50, 10]⟩
def factL : List Dd := [⟨1, 1, 2, 0⟩, ⟨2, 0, 3, 1⟩, ⟨5, 2, 0, 0⟩]
theorem fact_read : readDT factB.data.toList = some factL := by kernel_rfl
theorem fact_ok : ddsFault factL = 0 := by kernel_rfl

theorem deeds_take {w : World} {a : Option Addr} {n c : Nat} {l : List Dd} (h : DeedsAt w (.slice a n c) l) (k : Nat) (hk : k ≤ l.length) : DeedsAt w (.slice a k c) (l.take k) := by
  have hfl : flatE (l.take k) = (flatE l).take (k * 4) := by
    apply List.ext_getElem?
    intro j
    rw [List.getElem?_take]
    by_cases hj : j < k * 4
    · rw [if_pos hj]
      have e : j = j / 4 * 4 + j % 4 := by omega
      have h1 : j / 4 < l.length := by omega
      have h2 : j / 4 < (l.take k).length := by rw [List.length_take]; omega
      rw [e, flatE_get _ _ _ h2 (by omega), flatE_get _ _ _ h1 (by omega)]
      have h3 : ddAt (l.take k) (j / 4) = ddAt l (j / 4) := by
        unfold ddAt
        rw [List.getElem?_take, if_pos (by omega)]
      rw [h3]
    · rw [if_neg hj, List.getElem?_eq_none (by rw [flatE_len, List.length_take]; omega)]
  have hlen : (l.take k).length = k := by rw [List.length_take]; omega
  obtain ⟨hl, h1, h⟩ := h
  refine ⟨flatE_len _, flatE_one _, ?_⟩
  rw [hlen]
  rcases h with ⟨h0, h | ⟨x, cap, h⟩⟩ | ⟨h0, b, off, cap, h, hc⟩
  · injection h with e1 e2 e3
    have hk0 : k = 0 := by omega
    subst hk0 e1 e3
    exact .inl ⟨rfl, .inl rfl⟩
  · injection h with e1 e2 e3
    have hk0 : k = 0 := by omega
    subst hk0 e1 e3
    exact .inl ⟨rfl, .inr ⟨x, c, rfl⟩⟩
  · injection h with e1 e2 e3
    subst e1 e3
    rcases Nat.eq_zero_or_pos k with rfl | hk1
    · exact .inl ⟨rfl, .inr ⟨_, _, rfl⟩⟩
    · refine .inr ⟨hk1, b, off, c, rfl, fun j y hy => hc j y ?_⟩
      rw [hfl, List.getElem?_take] at hy
      split at hy
      · exact hy
      · cases hy

theorem check_zero {p : PlanL} {hands : Int} {l : List Dd} (h : checkF p hands l = 0) : PlanOk p ∧ 1 ≤ hands ∧ hands ≤ 6 ∧ hErr p hands = 0 ∧ ddsFault l = 0 ∧ runF p hands tZero l = 0 := by
  unfold checkF at h
  by_cases h1 : hErr p hands = 0
  · rw [if_neg (by simpa using h1)] at h
    by_cases h2 : ddsFault l = 0
    · rw [if_neg (by simpa using h2)] at h
      obtain ⟨a, b, c⟩ := hErr_zero h1
      exact ⟨a, b, c, h1, h2, h⟩
    · rw [if_pos h2] at h; exact absurd h h2
  · rw [if_pos h1] at h; exact absurd h h1
theorem check_take {p : PlanL} {hands : Int} {l : List Dd} (h : checkF p hands l = 0) (k : Nat) : checkF p hands (l.take k) = 0 := by
  obtain ⟨_, _, _, h1, h2, h3⟩ := check_zero h
  have h4 : ddsFault (l.take k) = 0 := by
    unfold ddsFault at h2 ⊢
    split at h2
    · cases h2
    · rename_i hl
      rw [if_neg (by rw [List.length_take]; omega)]
      exact (firstDd_zero _).2 (fun d hd => (firstDd_zero l).1 h2 d (List.mem_of_mem_take hd))
  unfold checkF
  rw [if_neg (by simpa using h1), if_neg (by simpa using h4)]
  exact run_take p hands l tZero k h3
theorem dds_all {l : List Dd} (h : ddsFault l = 0) : l.length ≤ 1000 ∧ ∀ d ∈ l, ddFault d = 0 := by
  unfold ddsFault at h
  split at h
  · cases h
  · rename_i hl
    exact ⟨by omega, (firstDd_zero l).1 h⟩

set_option maxRecDepth 100000 in
set_option maxHeartbeats 8000000 in
theorem walk (v0 : Value) (l0 : PlanL) (a1 : Int) (v2 : Value) (l2 : List Dd) (a3 : ByteArray) (a4 : Int) (w : World) (hmax : ∃ m, w.cell? ⟨1, 0, none⟩ = some (.int .i64 m)) (htab : Lib.TabIs Tryd.prog w "internal/strconv.uint64pow10" .u64 Lib.pow10Tab) (hrange : VarErr "strconv.ErrRange" w) (hsyn : VarErr "strconv.ErrSyntax" w) (hwords : WordsIn w) (w0 : ArgPlan w v0 l0) (w1 : (Lit.int .i64 a1).wf = true) (w2 : InDeeds w v2 l2) (w3 : a3.size ≤ 1048576) (w4 : (Lit.int .i64 a4).wf = true) :
    Calls Tryd.prog 4 #[v0, .int .i64 a1, v2, .string a3, .int .i64 a4] w fun e w' => e = .returned (.bool true) ∧ Below w.heap.size w w' := by
  have hstd : Std w := ⟨hsyn, hrange, htab, hmax⟩
  have HSTD := Lib.hid (fun (W : World) (hW : Only [] w W) => hstd.only hW)
  have HWD := Lib.hid (fun (W : World) (hW : Only [] w W) => hwords.only hW)
  have bd1 := bounds_i64 w1
  have bd4 := bounds_i64 w4
  obtain ⟨hfit, hp⟩ := w0
  obtain ⟨a, cap, rfl, hc1, hc2, _⟩ := hp.task
  obtain ⟨n, hn⟩ : ∃ n, l0.length = n := ⟨_, rfl⟩
  have HN := Lib.hid hn
  rw [hn] at hc1 hp ⊢
  have HP := Lib.hid (fun (W : World) (hW : Only [] w W) => hp.same hW)
  obtain ⟨_, hd, hdl, hdc⟩ := w2
  obtain ⟨da, dc, rfl, _⟩ := hd.opt
  have hdc := hdc _ _ _ rfl
  obtain ⟨m, hm⟩ : ∃ m, l2.length = m := ⟨_, rfl⟩
  have HM := Lib.hid hm
  have hml : m ≤ 9223372036854775807 := by rw [← hm]; unfold maxLen at hdl; omega
  have HD := Lib.hid (fun (W : World) (hW : Only [] w W) => hd.same hW)
  rw [hm] at HD hdc ⊢
  have HCK := Lib.hid (fun (W : World) (hW : Only [] w W) => trace_Check _ _ l0 a1 l2 W (HP.out W hW) (HD.out W hW) (by rw [HM.out]; exact hml) bd1)
  have hfact := dParse_ok factB (by decide) w hstd hwords fact_read fact_ok
  have HPT := Lib.hid (fun (W : World) (hW : Only [] w W) => trace_Parse a3 (by omega) W (hstd.only hW) (hwords.only hW))
  clear hmax htab hrange hsyn hwords hstd hfit hp hn hm hd hdl w1 w4
  go_enter Tryd.func4, Tryd.ntmps4
  go_wp2_with fail
  refine hfact.mono ?_
  rintro e w2' ⟨fv, rfl, hfo, ho2⟩
  have HO2 := Lib.hid ho2
  obtain ⟨fa, fc, rfl, hfc⟩ := hfo.at.opt
  have e3 : factL.length = 3 := rfl
  obtain ⟨fb, foff, rfl, _, _, _, c13⟩ := hfc 1 (by decide)
  obtain ⟨fb2, foff2, hfe, c20, _, _, _⟩ := hfc 2 (by decide)
  injection hfe with hfe
  injection hfe with hfe1 hfe2
  subst hfe1 hfe2
  have e1 : (ddAt factL 1).other = 1 := rfl
  have e2 : (ddAt factL 2).what = 5 := rfl
  rw [e1] at c13
  rw [e2] at c20
  rw [e3]
  have hpt := HPT.out _ ho2
  clear hfact hfo ho2 hfc e1 e2 e3
  go_wp2_with fail
  refine hpt.mono ?_
  rintro e w3' ⟨ho3, hc0⟩
  obtain ⟨xa, xk, xc, er, rfl, hcase⟩ : ∃ (xa : Option Addr) (xk xc : Nat) (er : Value), e = .returned (.tuple #[.slice xa xk xc, er]) ∧
      ((∃ f, f ≠ 0 ∧ er = errV f) ∨ (er = .nilIface ∧ ∃ q, ddsFault q = 0 ∧ DeedsAt w3' (.slice xa xk xc) q ∧ ddsText q = a3.data.toList)) := by
    rcases hc0 with ⟨h1, h2⟩ | ⟨v, q, h1, h2, h3, h4⟩
    · exact ⟨none, 0, 0, _, h2, .inl ⟨_, h1, rfl⟩⟩
    · obtain ⟨va, vc, rfl, _⟩ := h4.at.opt
      exact ⟨va, q.length, vc, .nilIface, h1, .inr ⟨rfl, q, h3, h4.at, (text_readDT h2).1⟩⟩
  have HO3 := Lib.hid (HO2.out.trans ho3 (by simp))
  have HCASE := Lib.hid hcase
  clear hpt ho3 hcase hc0 HPT c13 c20
  obtain ⟨B, hB⟩ : ∃ B : Bool, ((B = false ∧ ∃ f, er = .iface 56 (.int .i64 f)) ∨ (B = true ∧ er = .nilIface ∧ ∃ q, ddsFault q = 0 ∧ DeedsAt w3' (.slice xa xk xc) q ∧ ddsText q = a3.data.toList)) := by
    rcases HCASE.out with h | h
    · obtain ⟨f, h1, h2⟩ := h
      exact ⟨false, .inl ⟨rfl, f, by rw [h2, errV_ne h1]⟩⟩
    · exact ⟨true, .inr ⟨rfl, h⟩⟩
  have HB := Lib.hid hB
  clear hB HCASE
  obtain ⟨w9, hw9⟩ : ∃ w9, w9 = w3' := ⟨_, rfl⟩
  have HW9 := Lib.hid hw9
  clear hw9
  go_upto_region 5 with (fail)
  go_cut [53, 54] (fun _ vb wx => vb = .bool B ∧ wx = w9)
  case first =>
    as_aux_lemma =>
      rcases HB.out with ⟨rfl, f, rfl⟩ | ⟨rfl, rfl, _⟩
      · go_wp2
        go_meet
        exact ⟨rfl, HW9.out.symm⟩
      · go_wp2
        go_meet
        exact ⟨rfl, HW9.out.symm⟩
  case rest =>
  obtain ⟨rfl, hwc⟩ := hcut
  obtain rfl : wc = w3' := hwc.trans HW9.out
  clear hwc HW9
  go_upto_if 54 with (fail)
  go_cut [15, 16] (fun _ _ wx => Only [] w wx)
  case first =>
    as_aux_lemma =>
      rcases HB.out with ⟨rfl, _⟩ | ⟨rfl, rfl, q, hf, hq, ht⟩
      · go_wp2
        go_meet
        exact HO3.out
      · have hpr := trace_Print _ q wc hq (HWD.out wc HO3.out) hf
        have e : (⟨(ddsText q).toArray⟩ : ByteArray) = a3 := by rw [ht, mk_data']
        rw [e] at hpr
        have hself : (a3.toList == a3.toList) = true := beq_self_eq_true _
        clear hf hq ht e
        go_wp2_with fail
        refine hpr.mono ?_
        rintro e w4' ⟨rfl, ho4⟩
        have HO4 := Lib.hid (HO3.out.trans ho4 (by simp))
        clear hpr ho4
        go_wp2
        go_meet
        exact HO4.out
  case rest =>
  have HO := Lib.hid hcut
  have hdw := HD.out wc hcut
  clear HB HO3 hcut HO2
  by_cases hf : ddsFault l2 = 0
  · obtain ⟨hl1000, hall⟩ := dds_all hf
    rw [HM.out] at hl1000
    have hpr := trace_Print _ l2 wc hdw (HWD.out wc HO.out) hf
    have hpl := ddsText_len l2 hall
    rw [HM.out] at hpl
    have HF := Lib.hid hf
    have HALL := Lib.hid hall
    obtain ⟨T, hT⟩ : ∃ T : ByteArray, (⟨(ddsText l2).toArray⟩ : ByteArray) = T := ⟨_, rfl⟩
    have hTd : T.data.toList = ddsText l2 := by rw [← hT]
    have hTz : T.size ≤ 100000 := by
      have e : T.data.toList.length = T.size := Array.length_toList
      rw [← e, hTd]; omega
    rw [hT] at hpr
    have HPP := Lib.hid (fun (W : World) (hW : Only [] w W) => dParse_ok T (by omega) W (HSTD.out W hW) (HWD.out W hW) (by rw [hTd]; exact read_dds hall) hf)
    clear hdw hf hall hpl hT hTd
    go_wp2_with fail
    refine hpr.mono ?_
    rintro e w5 ⟨rfl, ho5⟩
    have HO5 := Lib.hid (HO.out.trans ho5 (by simp))
    have hpp := HPP.out w5 HO5.out
    clear hpr ho5 HPP
    go_wp2_with fail
    refine hpp.mono ?_
    rintro e w6 ⟨yv, rfl, hy, ho6⟩
    have HO6 := Lib.hid (HO5.out.trans ho6 (by simp))
    have hsd := same_deeds yv (.slice da m dc) l2 w6 hy.at (HD.out w6 HO6.out) (by rw [HM.out]; omega)
    obtain ⟨ya, yc, rfl, _⟩ := hy.at.opt
    rw [HM.out] at hsd ⊢
    clear hpp hy ho6
    go_wp2_with fail
    refine hsd.mono ?_
    rintro e w7 ⟨rfl, dn, hw7⟩
    have HO7 : Hid (Only [] w w7) := by
      show Only _ _ _
      rw [hw7]
      exact HO6.out.drewN dn
    have hck := HCK.out w7 HO7.out
    obtain ⟨E, hE⟩ : ∃ E, checkF l0 a1 l2 = E := ⟨_, rfl⟩
    have HE := Lib.hid hE
    rw [hE] at hck
    clear hsd hw7 hE
    by_cases hE0 : E = 0
    · subst hE0
      rw [errV_zero] at hck
      obtain ⟨hok, hh1, hh6, _, _, hrun⟩ := check_zero HE.out
      obtain ⟨hn', rfl⟩ := Int.eq_ofNat_of_zero_le (show 0 ≤ a1 by omega)
      obtain ⟨q1, q2, q3, _⟩ := kinds_zero HALL.out hrun
      rw [HN.out] at q1
      have hkl : ∀ k, kindN k l2 ≤ 1000 := fun k => by
        have h : kindN k l2 ≤ l2.length := List.countP_le_length
        have := HM.out; omega
      have hk0 := hkl 1
      have hk1 := hkl 2
      have hk2 := hkl 3
      have hk3 := hkl 4
      have hk4 := hkl 5
      have hk5 := hkl 6
      have hco := Lib.hid (fun (W : World) (hW : Only [] w W) => trace_Counts _ l2 W (HD.out W hW) HF.out)
      unfold hadN at q1 q2
      have hz : ∃ z0 z1 z2 z3 z4 z5 : Nat, kindF l2 0 = (z0 : Int) ∧ kindF l2 1 = (z1 : Int) ∧ kindF l2 2 = (z2 : Int) ∧ kindF l2 3 = (z3 : Int) ∧ kindF l2 4 = (z4 : Int) ∧ kindF l2 5 = (z5 : Int) ∧
          z0 + z1 + z2 ≤ n ∧ z3 ≤ z0 + z1 + z2 ∧ z5 ≤ z4 ∧ z0 ≤ 1000 ∧ z1 ≤ 1000 ∧ z2 ≤ 1000 ∧ z3 ≤ 1000 ∧ z4 ≤ 1000 ∧ z5 ≤ 1000 :=
        ⟨kindN 1 l2, kindN 2 l2, kindN 3 l2, kindN 4 l2, kindN 5 l2, kindN 6 l2, rfl, rfl, rfl, rfl, rfl, rfl, q1, q2, q3, hk0, hk1, hk2, hk3, hk4, hk5⟩
      obtain ⟨z0, z1, z2, z3, z4, z5, y0, y1, y2, y3, y4, y5, b1, b2, b3, b4, b5, b6, b7, b8, b9⟩ := hz
      have HY := Lib.hid (And.intro y0 (And.intro y1 (And.intro y2 (And.intro y3 (And.intro y4 y5)))))
      have h30 := hok.len
      rw [HN.out] at h30
      clear hok hrun q1 q2 q3 hkl hk0 hk1 hk2 hk3 hk4 hk5 y0 y1 y2 y3 y4 y5 HALL
      go_wp2_with fail
      refine hck.mono ?_
      rintro e w8 ⟨rfl, ho8⟩
      have HO8 := Lib.hid (HO7.out.trans ho8 (by simp))
      have hc := hco.out w8 HO8.out
      clear hck ho8
      go_wp2_with fail
      refine hc.mono ?_
      rintro e wA ⟨A, rfl, hNm, hoA⟩
      have HOA := Lib.hid (HO8.out.trans hoA (by simp))
      have cz0 : wA.cell? ⟨A, 0, none⟩ = some (.int .i64 (z0 : Int)) := by rw [← HY.out.1]; exact (hNm 0 (by omega)).1
      have cz1 : wA.cell? ⟨A, 1, none⟩ = some (.int .i64 (z1 : Int)) := by rw [← HY.out.2.1]; exact (hNm 1 (by omega)).1
      have cz2 : wA.cell? ⟨A, 2, none⟩ = some (.int .i64 (z2 : Int)) := by rw [← HY.out.2.2.1]; exact (hNm 2 (by omega)).1
      have cz3 : wA.cell? ⟨A, 3, none⟩ = some (.int .i64 (z3 : Int)) := by rw [← HY.out.2.2.2.1]; exact (hNm 3 (by omega)).1
      have cz4 : wA.cell? ⟨A, 4, none⟩ = some (.int .i64 (z4 : Int)) := by rw [← HY.out.2.2.2.2.1]; exact (hNm 4 (by omega)).1
      have cz5 : wA.cell? ⟨A, 5, none⟩ = some (.int .i64 (z5 : Int)) := by rw [← HY.out.2.2.2.2.2]; exact (hNm 5 (by omega)).1
      have hw01 : IntKind.i64.wrap ((z0 : Int) + (z1 : Int)) = (z0 : Int) + z1 := IntWalk.i64_in _ (by omega)
      have hw012 : IntKind.i64.wrap ((z0 : Int) + (z1 : Int) + (z2 : Int)) = (z0 : Int) + z1 + z2 := IntWalk.i64_in _ (by omega)
      have hd1 : decide ((n : Int) < (z0 : Int) + z1 + z2) = false := decide_eq_false (by omega)
      have hd2 : decide ((z0 : Int) + z1 + z2 < (z3 : Int)) = false := decide_eq_false (by omega)
      have hd3 : decide ((z4 : Int) < (z5 : Int)) = false := decide_eq_false (by omega)
      have hd4 : decide (z4 < z5) = false := decide_eq_false (by omega)
      clear hc hNm hoA hco
      go_upto_region 18 with (fail)
      go_quiet (fail)
      obtain ⟨wB, hwB⟩ : ∃ wB, wA.drewN nq = wB := ⟨_, rfl⟩
      have hoB : Only [] wA wB := by rw [← hwB]; exact (Only.refl [] wA).drewN nq
      have HOB := Lib.hid (HOA.out.trans hoB (by simp))
      rw [hwB]
      clear hwB hoB cz0 cz1 cz2 cz3 cz4 cz5 hw01 hw012
      by_cases hcut0 : a4 < 0
      · go_wp2
        go_ret
        exact ⟨rfl, HOB.out.below (Nat.le_refl _) (by simp)⟩
      · by_cases hcut1 : (m : Int) < a4
        · go_wp2
          go_ret
          exact ⟨rfl, HOB.out.below (Nat.le_refl _) (by simp)⟩
        · obtain ⟨k, rfl⟩ := Int.eq_ofNat_of_zero_le (show 0 ≤ a4 by omega)
          have hkm : k ≤ m := by omega
          have hkc : k ≤ dc := by omega
          have htl : (l2.take k).length = k := by rw [List.length_take, HM.out]; omega
          have hck := trace_Check _ (.slice da k dc) l0 (hn' : Int) (l2.take k) wB (HP.out wB HOB.out) (deeds_take (HD.out wB HOB.out) k (by rw [HM.out]; exact hkm)) (by rw [htl]; omega) bd1
          rw [check_take HE.out k, errV_zero] at hck
          clear htl
          go_wp2_with fail
          refine hck.mono ?_
          rintro e wC ⟨rfl, hoC⟩
          have HOC := Lib.hid (HOB.out.trans hoC (by simp))
          clear hck hoC
          go_wp2
          go_ret
          exact ⟨rfl, HOC.out.below (Nat.le_refl _) (by simp)⟩
    · rw [errV_ne hE0] at hck
      go_wp2_with fail
      refine hck.mono ?_
      rintro e w8 ⟨rfl, ho8⟩
      have HO8 := Lib.hid (HO7.out.trans ho8 (by simp))
      clear hck ho8
      go_wp2
      go_ret
      exact ⟨rfl, HO8.out.below (Nat.le_refl _) (by simp)⟩
  · have hpr := trace_Print_no _ l2 wc hdw (by rw [HM.out]; exact hml) hf
    have hE0 : checkF l0 a1 l2 ≠ 0 := fun h => hf (check_zero h).2.2.2.2.1
    rw [errV_ne hf] at hpr
    generalize ddsFault l2 = f at *
    clear hdw hf
    go_wp2_with fail
    refine hpr.mono ?_
    rintro e w5 ⟨rfl, ho5⟩
    have HO5 := Lib.hid (HO.out.trans ho5 (by simp))
    have hck := HCK.out w5 HO5.out
    rw [errV_ne hE0] at hck
    obtain ⟨E, hE⟩ : ∃ E, checkF l0 a1 l2 = E := ⟨_, rfl⟩
    rw [hE] at hck
    clear hpr ho5 hE0 hE
    go_wp2_with fail
    refine hck.mono ?_
    rintro e w8 ⟨rfl, ho8⟩
    have HO8 := Lib.hid (HO5.out.trans ho8 (by simp))
    clear hck ho8
    go_wp2
    go_ret
    exact ⟨rfl, HO8.out.below (Nat.le_refl _) (by simp)⟩

end Go.Proofs.YtoofalchkedciaaDoor.traceBack
