/-
  The statement TopWeave: a weave, measured and done. No condition but the listed variables'.
-/
import Derived.Test.YtocpmncedlenbaaGreatDoorP1TopWeave
import Derived.Test.YtocpmncedlenbaaGreatDoorP2TopWeave
import Derived.Test.YtocpmncedlenbaaGreatDoorP25TopWeave
import Derived.Test.YtocpmncedlenbaaGreatDoorP30TopWeave
import Derived.Test.YtocpmncedlenbaaGreatDoorP38TopWeave
import Derived.Test.YtocpmncedlenbaaGreatDoorP40TopWeave
import Derived.Test.YtocpmncedlenbaaGreatDoorP42TopWeave
import Derived.Test.YtocpmncedlenbaaGreatDoorP32TopWeave
import Derived.Test.YtocpmncedlenbaaGreatDoorP44TopWeave
import Derived.Test.YtocpmncedlenbaaGreatDoorP23TopWeave
namespace Go.Proofs.YtocpmncedlenbaaGreatDoor.topWeave
open Go.ChangeShapes Go.WideShapes Go.ChangeAt Go.RowKit
open Go.ChangeMaps (open_string shut_string)
set_option linter.unusedVariables false


theorem bits_in {p : PlanL} {hands s : Nat} {w : World} {base : Nat} {v : Value} (h : PlanOk p) (h6 : hands ≤ 6) (hs : s ≤ 600) (hO : OwnBits w base v (gBits p hands s)) : InBits w v (gBits p hands s) := by
  refine ⟨fun b hb => ?_, hO.at, by have := gBits_600 p hands s h; unfold maxLen; omega⟩
  obtain ⟨t, j, ht, hj, rfl⟩ := gBits_mem hb
  have hm := gAt_mem (List.getElem_mem hj)
  have hl := h.len
  have := gRow_len p hands (gLeft p hands t) p.length
  have hj2 : j < hands := by unfold gAt at hj; omega
  have h1 := hm.1
  exact ⟨wf_small (by simp) (by simp; omega), wf_small (by simp) (by simp; omega), wf_small (by simp) (by simp; omega)⟩
theorem bits_small {p : PlanL} {hands s : Nat} (h : PlanOk p) (hs : s ≤ 600) : ∀ b ∈ gBits p hands s, bitOk hands b := by
  intro b hb
  obtain ⟨t, j, ht, hj, rfl⟩ := gBits_mem hb
  have hm := gAt_mem (List.getElem_mem hj)
  have hl := h.len
  have := gRow_len p hands (gLeft p hands t) p.length
  have hj2 : j < hands := by unfold gAt at hj; omega
  have h1 := hm.1
  unfold bitOk
  simp only
  omega
theorem bits_steps {p : PlanL} {hands s : Nat} (he : GEnd p hands s) : stepsOf (gBits p hands s) = s := by
  apply Nat.le_antisymm
  · refine stepsOf_le fun b hb => ?_
    obtain ⟨t, j, ht, hj, rfl⟩ := gBits_mem hb
    simpa using ht
  · cases s with
    | zero => exact Nat.zero_le _
    | succ t =>
      have hne := he.2 t (by omega)
      have hpos : 0 < (gAt p hands t).length := List.length_pos_iff.2 hne
      have hm : (⟨(t : Int), ((0 : Nat) : Int), (((gAt p hands t)[0]?.getD 0 : Nat) : Int)⟩ : Bt) ∈ gBits p hands (t + 1) := by
        rw [gBits, List.mem_append]
        right
        unfold rowBits
        exact List.mem_map.2 ⟨0, List.mem_range.2 hpos, rfl⟩
      have := stepsOf_lt hm
      simp at this
      omega
theorem urgL_each (T : Nat → Int) (n : Nat) : EachOf n (urgL T n) := by
  unfold EachOf
  have h1 : (urgL T n).Nodup := (urgL_sorted T n).imp (fun {a b} h e => by subst e; unfold ltK at h; omega)
  have h2 : (natL (List.range n)).Nodup := by
    unfold natL
    exact List.Pairwise.map _ (fun a b (h : a ≠ b) e => h (by omega)) List.nodup_range
  refine (List.perm_ext_iff_of_nodup h1 h2).2 fun x => ?_
  rw [urgL_mem]
  unfold natL
  simp only [List.mem_map, List.mem_range]
  constructor
  · rintro ⟨j, hj, rfl⟩; exact ⟨j, hj, rfl⟩
  · rintro ⟨j, hj, rfl⟩; exact ⟨j, hj, rfl⟩
theorem nums_reads {w : World} {A N c : Nat} {f : Nat → Int} (h : Nums w A N f) (h0 : 0 < N) (hc : N ≤ c) (hm : c ≤ maxLen) : Reads w (.slice (some ⟨A, 0, none⟩) N c) (numL N f) := by
  refine .inr ⟨by rw [numL_len]; omega, A, 0, c, by rw [numL_len], by rw [numL_len]; exact hc, hm, fun i hi => ?_⟩
  rw [numL_len] at hi
  rw [Nat.zero_add, (h i hi).1, numL_nth _ _ _ hi]
theorem mul_bdL (a s : Int) (h0 : 1 ≤ a) (ha : a ≤ 6) (h1 : 0 ≤ s) (hs : s ≤ 600) : 0 ≤ a * s ∧ a * s ≤ 3600 := by
  refine ⟨Int.mul_nonneg (by omega) h1, ?_⟩
  have := Int.mul_le_mul ha hs h1 (by omega)
  omega
theorem bound_num (s k : Int) (h1 : 1 ≤ k) (h6 : k ≤ 6) (hs : 0 ≤ s ∧ s ≤ 600) : 0 ≤ (k - 1) * s ∧ (k - 1) * s ≤ 3000 := by
  refine ⟨Int.mul_nonneg (by omega) hs.1, ?_⟩
  have h := Int.mul_le_mul (show k - 1 ≤ 5 by omega) hs.2 hs.1 (by omega)
  omega
theorem nil_plan (w : World) : InPlan w (.slice none 0 0) [] := (OwnPlanN.nil w 0 (fun _ => False)).own.row.plan

set_option maxRecDepth 100000 in
set_option maxHeartbeats 8000000 in
theorem walk (a0 : ByteArray) (a1 : Int) (w : World) (hrange : VarErr "strconv.ErrRange" w) (hsyn : VarErr "strconv.ErrSyntax" w) (w0 : a0.size ≤ maxLen) (w1 : (Lit.int .i64 a1).wf = true) :
    Calls Tryz.prog 3 #[.string a0, .int .i64 a1] w fun e w' => e = .returned (.bool true) ∧ Below w.heap.size w w' := by
  have HSY := Lib.hid hsyn
  have HRA := Lib.hid hrange
  have hmax : a0.size ≤ 9223372036854775807 := by unfold maxLen at w0; omega
  have bd1 := bounds_i64 w1
  have hone := top_one w
  clear w0 w1 hsyn hrange
  go_enter Tryz.func3, Tryz.ntmps3
  go_wp2_with fail
  refine hone.mono ?_
  rintro e wa ⟨rfl, ho1⟩
  have HOa := Lib.hid ho1
  clear hone ho1
  by_cases hf : weaveF a0 = 0
  · obtain ⟨h200, A, hpt, h20, h30⟩ := weaveF_ok hf
    have hp2 := Parse_ok a0 wa (HSY.out.only HOa.out) (HRA.out.only HOa.out) A h200 hpt h20 h30
    have hpl := weave_plan A (NumsW.mono (fun n (h : 1 ≤ n ∧ n ≤ 21) => h.1) (text_ok hpt)) h30 (fun j hj => by
      by_cases h : 20 < wkOf (build A []) j
      · exact absurd ⟨j, hj, h⟩ h20
      · omega)
    have hln : (build A []).length = cntW A := by rw [build_len]; simp
    have hsw := small_work A (text_ok hpt)
    have hcp := cntW_pos A
    obtain ⟨P, hP⟩ : ∃ P, build A [] = P := ⟨_, rfl⟩
    obtain ⟨W0, hW0⟩ : ∃ W0, workW A = W0 := ⟨_, rfl⟩
    obtain ⟨S0, hS0⟩ : ∃ S0, spanW A = S0 := ⟨_, rfl⟩
    obtain ⟨n, hn⟩ : ∃ n, cntW A = n := ⟨_, rfl⟩
    rw [hW0, hS0, hn, hP] at hp2
    rw [hW0, hS0, hP] at hpl
    rw [hn] at h30 hcp hsw
    rw [hW0, hS0] at hsw
    rw [hP, hn] at hln
    obtain ⟨hok, hsp, hwk⟩ := hpl
    have hbA : 0 ≤ S0 ∧ S0 ≤ W0 ∧ W0 ≤ 630 := by omega
    obtain ⟨u1, u2, u3⟩ := hbA
    clear hf hpt h20 hP hW0 hS0 hn hsw
    go_wp2_with fail
    refine hp2.mono ?_
    rintro e wb ⟨x2, k2, rfl, hP2, ho2⟩
    have HOb := Lib.hid (HOa.out.trans ho2 (by simp))
    have HP := Lib.hid hP2
    clear hp2 ho2 hP2
    by_cases he : hErr P a1 = 0
    · obtain ⟨_, h1, h6⟩ := hErr_zero he
      obtain ⟨k, rfl⟩ := Int.eq_ofNat_of_zero_le (show 0 ≤ a1 by omega)
      have hk1 : 1 ≤ k := by omega
      have hk6 : k ≤ 6 := by omega
      have HE := Lib.hid he
      have HK := Lib.hid hok
      have HLN := Lib.hid hln
      have HSP := Lib.hid hsp
      have HWK := Lib.hid hwk
      have hrun := greedy_Run _ P k wb HP.out hok hk1 hk6
      have HUR := Lib.hid (fun w' (ho : Only [] wb w') => list_Urgent _ P w' (HP.out.same ho) hok)
      have HLR := Lib.hid (fun w' u order (ho : Only [] wb w') (hr : Reads w' u order) (hE : EachOf P.length order) => list_Run _ u P k order w' (HP.out.same ho) hr hok hk1 hk6 hE)
      have HLL := Lib.hid (fun w' u order (ho : Only [] wb w') (hr : Reads w' u order) (hE : EachOf P.length order) => list_Long _ u P k order w' (HP.out.same ho) hr hok hk1 hk6 hE)
      have HJB := Lib.hid (fun w' v' bs (ho : Only [] wb w') (hb : InBits w' v' bs) => judge_Bits _ v' P k bs w' (HP.out.same ho) hb)
      have HJS := Lib.hid (fun w' v' ss (ho : Only [] wb w') (hb : StaysAt w' v' ss) h9 hr => judge_Stays _ v' P k ss w' (HP.out.same ho) hb h9 hr)
      have HBD := Lib.hid (fun order ss (hE : EachOf P.length order) (h : LEnd P k order ss) => lEnd_bounds hok hE.ok.1 hk1 h)
      have HST := Lib.hid (fun order ss (hE : EachOf P.length order) (h : LEnd P k order ss) => (by
        unfold staysErrH
        rw [if_neg (by rw [he]; simp)]
        exact lEnd_stays hok hE.ok.1 hk1 h : staysErrH P k ss = 0))
      have HLS := Lib.hid (fun order ss (h : LEnd P k order ss) => (by obtain ⟨_, _, _, _, h⟩ := h; rw [h]; exact hok.len : ss.length ≤ 30))
      clear he hok hln hsp hwk h1 h6 bd1
      go_wp2_with fail
      refine hrun.mono ?_
      rintro e wc ⟨vb, s, rfl, hG, hOB, ho3⟩
      have HOc := Lib.hid (HOb.out.trans ho3 (by simp))
      have HBc := Lib.hid ho3
      have hs6 : s ≤ 600 := Nat.le_trans (gBits_steps P k s hG.2) (gBits_600 P k s HK.out)
      have hlen := gBits_work HK.out hk1 hG
      have hsum := gSum_workF HK.out
      rw [HWK.out] at hsum
      have hbd := greedy_bounds HK.out hk1 hG
      rw [HWK.out, HSP.out] at hbd
      obtain ⟨_, _, c3, _⟩ := hbd
      have hst := bits_steps hG
      have hbk := bits_small (hands := k) HK.out hs6
      have hin := Lib.hid (bits_in HK.out hk6 hs6 hOB)
      have hzero : bitsErrH P k (gBits P k s) = 0 := by
        unfold bitsErrH
        rw [if_neg (by rw [HE.out]; simp)]
        exact gBits_ok HK.out hk1 hG (by omega)
      obtain ⟨va, vc, rfl, _⟩ := hin.out.2.1.opt
      have HJB := Lib.hid (fun w' (ho : Only [] wb w') (hb : InBits w' (.slice va (gBits P k s).length vc) (gBits P k s)) => HJB.out w' _ _ ho hb)
      rw [hzero, errV_zero] at HJB
      have HWA := Lib.hid (fun w' (hb : InBits w' (.slice va (gBits P k s).length vc) (gBits P k s)) => bench_waste _ (gBits P k s) k w' hb.2.1 (gBits_600 P k s HK.out) hk1 hk6 hbk)
      rw [hst] at HWA
      rw [hlen] at HJB HWA hin ⊢
      obtain ⟨B, hB⟩ : ∃ B, gBits P k s = B := ⟨_, rfl⟩
      rw [hB] at HJB HWA hin
      obtain ⟨m, hm⟩ : ∃ m, gSum P.length (wkOf P) = m := ⟨_, rfl⟩
      rw [hm] at HJB HWA hin hsum ⊢
      have hm1 := mul_bdL k s (by omega) (by omega) (by omega) (by omega)
      have hm2 := bound_num S0 k (by omega) (by omega) ⟨u1, by have := (spanF_bd HK.out).2; rw [HSP.out] at this; exact this⟩
      obtain ⟨M1, hM1⟩ : ∃ M1, (k : Int) * (s : Int) = M1 := ⟨_, rfl⟩
      obtain ⟨M2, hM2⟩ : ∃ M2, ((k : Int) - 1) * S0 = M2 := ⟨_, rfl⟩
      rw [hM1] at c3 hm1 HWA
      rw [hM2] at c3 hm2
      have HM2 := Lib.hid hM2
      clear hrun ho3 hG hOB hlen hst hbk hzero hB hm hM1 hM2 hs6
      go_wp2_with fail
      refine (HUR.out wc HBc.out).mono ?_
      rintro e wd ⟨vu, rfl, ho4, hu⟩
      have HOd := Lib.hid (HOc.out.trans ho4 (by simp))
      have HBd := Lib.hid (HBc.out.trans ho4 (by simp))
      have hin := Lib.hid (hin.out.same ho4)
      rcases hu with ⟨hz, _⟩ | ⟨hpos, G, gc, g, rfl, _, hNu, hSR, hRe, hgc, hgm⟩
      · have := HLN.out; omega
      have hrd := Lib.hid (nums_reads hNu hpos hgc hgm)
      rw [urgent_is hSR hRe] at hrd
      have hE := urgL_each (tailF P) P.length
      obtain ⟨O, hO⟩ : ∃ O, urgL (tailF P) P.length = O := ⟨_, rfl⟩
      rw [hO] at hrd hE
      have HE2 := Lib.hid hE
      have hlr := HLR.out wd _ O HBd.out hrd.out hE
      rw [HLN.out] at hlr hrd ⊢
      clear HUR HLR ho4 hNu hSR hRe hgc hgm hpos hO hE HOc HBc
      go_wp2_with fail
      refine hlr.mono ?_
      rintro e we ⟨vs, ss, rfl, hLE, hOS, ho5⟩
      have HOe := Lib.hid (HOd.out.trans ho5 (by simp))
      have HBe := Lib.hid (HBd.out.trans ho5 (by simp))
      have hin := Lib.hid (hin.out.same ho5)
      have hll := HLL.out we _ O HBe.out (hrd.out.same ho5) HE2.out
      have hls := HLS.out O ss hLE
      obtain ⟨ba, bc, rfl, hbc, _⟩ := Row.form hOS
      have hat := Lib.hid hOS.at
      have HLE := Lib.hid hLE
      have hst := HST.out O ss HE2.out hLE
      have hbd := HBD.out O ss HE2.out hLE
      rw [HSP.out, HWK.out] at hbd
      obtain ⟨b1, b2, _, b4⟩ := hbd
      have hg0 := lLong_ge0 ss
      obtain ⟨q, hq⟩ : ∃ q, ss.length = q := ⟨_, rfl⟩
      have HJS := Lib.hid (fun w' (ho : Only [] wb w') (hb : StaysAt w' (.slice ba ss.length bc) ss) => HJS.out w' (.slice ba ss.length bc) ss ho hb (by omega) (by rintro a n c ⟨⟩; exact hbc))
      rw [hst, errV_zero] at HJS
      have hm3 := mul_bdL k (lLong ss) (by omega) (by omega) hg0 b1
      rw [hq] at HJS hat hls ⊢
      clear hlr ho5 hOS hLE hst HST HBD HLL HLS hq hbc HOd HBd
      go_wp2_with fail
      refine hll.mono ?_
      rintro e wf ⟨ss', rfl, hE', ho6⟩
      obtain rfl := lEnd_unique hE' HLE.out
      have HOf := Lib.hid (HOe.out.trans ho6 (by simp))
      have HBf := Lib.hid (HBe.out.trans ho6 (by simp))
      have hin := Lib.hid (hin.out.same ho6)
      have hat := Lib.hid (hat.out.same ho6)
      have hwa := HWA.out wf hin.out
      obtain ⟨L, hL⟩ : ∃ L, lLong ss' = L := ⟨_, rfl⟩
      rw [hL] at b1 b2 b4 hg0 hm3 ⊢
      obtain ⟨M3, hM3⟩ : ∃ M3, (k : Int) * L = M3 := ⟨_, rfl⟩
      rw [hM3] at b4 hm3
      rw [HM2.out] at b4
      clear hll ho6 hE' HLE hL HWA HOe HBe
      go_wp2_with fail
      refine hwa.mono ?_
      rintro e wg ⟨rfl, ho7⟩
      have HOg := Lib.hid (HOf.out.trans ho7 (by simp))
      have HBg := Lib.hid (HBf.out.trans ho7 (by simp))
      have hin := Lib.hid (hin.out.same ho7)
      have hat := Lib.hid (hat.out.same ho7)
      have hjb := HJB.out wg HBg.out hin.out
      clear hwa ho7 HOf HBf HJB
      go_wp2_with fail
      refine hjb.mono ?_
      rintro e wh ⟨rfl, ho8⟩
      have HOh := Lib.hid (HOg.out.trans ho8 (by simp))
      have HBh := Lib.hid (HBg.out.trans ho8 (by simp))
      have hjs := HJS.out wh HBh.out (hat.out.same ho8)
      clear hjb ho8 HOg HBg HJS
      go_wp2_with fail
      refine hjs.mono ?_
      rintro e wi ⟨rfl, ho9⟩
      have HOi := Lib.hid (HOh.out.trans ho9 (by simp))
      have hM2 := HM2.out
      clear hjs ho9
      have hlast : decide (M1 - W0 ≤ M2) = true := by simp; omega
      go_wp2
      go_ret
      exact ⟨by simp, HOi.out.below (Nat.le_refl _) (by simp)⟩
    · have hrun := greedy_Run_no _ P a1 wb HP.out he
      generalize hErr P a1 = f at *
      clear he hsp hwk
      go_wp2_with fail
      refine hrun.mono ?_
      rintro e wc ⟨rfl, ho3⟩
      have HOc := Lib.hid (HOb.out.trans ho3 (by simp))
      clear hrun ho3
      go_wp2
      go_ret
      exact ⟨rfl, HOc.out.below (Nat.le_refl _) (by simp)⟩
  · have hp2 := Parse_no a0 wa hmax (HSY.out.only HOa.out) (HRA.out.only HOa.out) hf
    generalize weaveF a0 = f at *
    go_wp2_with fail
    refine hp2.mono ?_
    rintro e wb ⟨rfl, ho2⟩
    have HOb := Lib.hid (HOa.out.trans ho2 (by simp))
    clear hp2 ho2 hf
    by_cases he : hErr [] a1 = 0
    · obtain ⟨hok, h1, h6⟩ := hErr_zero he
      obtain ⟨k, rfl⟩ := Int.eq_ofNat_of_zero_le (show 0 ≤ a1 by omega)
      have hrun := greedy_Run _ [] k wb (nil_plan wb) hok (by omega) (by omega)
      clear he hok
      go_wp2_with fail
      refine hrun.mono ?_
      rintro e wc ⟨vb, s, rfl, _, hOB, ho3⟩
      obtain ⟨va, vc, rfl, _⟩ := hOB.at.opt
      have HOc := Lib.hid (HOb.out.trans ho3 (by simp))
      clear hrun ho3 hOB
      go_wp2
      go_ret
      exact ⟨rfl, HOc.out.below (Nat.le_refl _) (by simp)⟩
    · have hrun := greedy_Run_no _ [] a1 wb (nil_plan wb) he
      generalize hErr [] a1 = f2 at *
      clear he
      go_wp2_with fail
      refine hrun.mono ?_
      rintro e wc ⟨rfl, ho3⟩
      have HOc := Lib.hid (HOb.out.trans ho3 (by simp))
      clear hrun ho3
      go_wp2
      go_ret
      exact ⟨rfl, HOc.out.below (Nat.le_refl _) (by simp)⟩

end Go.Proofs.YtocpmncedlenbaaGreatDoor.topWeave
