/-
  The statement GreedyBound: nobody idle, never long (Graham, Brent), outright: step by step a plan takes at least its span, and its work by the hands; and at most the work by the hands, and the span for the others; it may be so. No condition.
-/
import Derived.Test.YtmopbimineoogaaP2GreedyBound
import Derived.Test.YtmopbimineoogaaP24GreedyBound
import Derived.Test.YtmopbimineoogaaP27GreedyBound
import Derived.Test.YtmopbimineoogaaP33GreedyBound
import Derived.Test.YtmopbimineoogaaP34GreedyBound
namespace Go.Proofs.Ytmopbimineoogaa.greedyBound
open Go.ChangeShapes Go.WideShapes Go.ChangeAt Go.RowKit
open Go.ChangeMaps (open_string shut_string)
set_option linter.unusedVariables false

theorem litG (W : World) : InPlan (W.alloc (.cells #[.int .i64 3, .slice none 0 0, .int .i64 2, .slice none 0 0, .int .i64 4, .slice none 0 0] 26)) (.slice (some ⟨W.heap.size, 0, none⟩) 3 3) [(3, []), (2, []), (4, [])] := by
  refine lit_plan (heap_alloc_at _ _ _ (by simp)) [(3, []), (2, []), (4, [])] (fun i => .slice none 0 0) ?_ (by simp) ?_
  · rfl
  · intro i hi
    have : i = 0 ∨ i = 1 ∨ i = 2 := by simp at hi; omega
    rcases this with rfl | rfl | rfl <;> exact .inl ⟨rfl, .inl rfl⟩
theorem litG_ok : PlanOk [(3, []), (2, []), (4, [])] := litOk_ok (by decide)
theorem litG_end : GEnd [(3, []), (2, []), (4, [])] 2 6 := by
  refine ⟨by decide +kernel, fun t ht => ?_⟩
  have : t = 0 ∨ t = 1 ∨ t = 2 ∨ t = 3 ∨ t = 4 ∨ t = 5 := by omega
  rcases this with rfl | rfl | rfl | rfl | rfl | rfl <;> decide +kernel

theorem bits_in {p : PlanL} {hands s : Nat} {w : World} {base : Nat} {v : Value} (h : PlanOk p) (h6 : hands ≤ 6) (hs : s ≤ 600) (hO : OwnBits w base v (gBits p hands s)) : InBits w v (gBits p hands s) := by
  refine ⟨fun b hb => ?_, hO.at, by have := gBits_600 p hands s h; unfold maxLen; omega⟩
  obtain ⟨t, j, ht, hj, rfl⟩ := gBits_mem hb
  have hm := gAt_mem (List.getElem_mem hj)
  have hl := h.len
  have := gRow_len p hands (gLeft p hands t) p.length
  have hj2 : j < hands := by unfold gAt at hj; omega
  have h1 := hm.1
  exact ⟨wf_small (by simp) (by simp; omega), wf_small (by simp) (by simp; omega), wf_small (by simp) (by simp; omega)⟩
theorem mul_bd (a s : Nat) (ha : a ≤ 6) (hs : s ≤ 600) : 0 ≤ (a : Int) * s ∧ (a : Int) * s ≤ 3600 := by
  have := Nat.mul_le_mul ha hs
  refine ⟨Int.mul_nonneg (by omega) (by omega), ?_⟩
  have : ((a * s : Nat) : Int) = (a : Int) * s := by simp
  omega

set_option maxHeartbeats 8000000 in
set_option maxRecDepth 100000 in
theorem walk (v0 : Value) (l0 : PlanL) (a1 : Int) (w : World) (w0 : ArgPlan w v0 l0) (w1 : (Lit.int .i64 a1).wf = true) :
    Calls Try.prog 3 #[v0, .int .i64 a1] w fun e w' => e = .returned (.bool true) ∧ Below w.heap.size w w' := by
  have bd1 := bounds_i64 w1
  have HP := Lib.hid w0.2
  clear w0
  have hl := litG w
  have hol := (Only.refl [] w).alloc (.cells #[.int .i64 3, .slice none 0 0, .int .i64 2, .slice none 0 0, .int .i64 4, .slice none 0 0] 26)
  have hlg := greedy_Long _ _ 2 _ hl litG_ok (by omega) (by omega)
  clear hl
  go_enter Try.func3, Try.ntmps3
  go_wp2_with fail
  refine hlg.mono ?_
  rintro e wa ⟨s0, rfl, hE0, _, ho1⟩
  obtain rfl := gEnd_unique hE0 litG_end
  have hoo := hol.trans ho1 (by simp)
  clear hlg hol ho1 hE0
  by_cases he : hErr l0 a1 = 0
  · obtain ⟨hok, h1, h6⟩ := hErr_zero he
    obtain ⟨k, rfl⟩ := Int.eq_ofNat_of_zero_le (show 0 ≤ a1 by omega)
    have hrun := greedy_Run v0 l0 k wa (HP.out.same hoo) hok (by omega) (by omega)
    have HL := Lib.hid (fun w' (ho : Only [] w w') => greedy_Long v0 l0 k w' (HP.out.same ho) hok (by omega) (by omega))
    have HB := Lib.hid (fun w' (ho : Only [] w w') => greedy_Bound v0 l0 k w' (HP.out.same ho) hok (by omega) (by omega))
    have HW := Lib.hid (fun w' (ho : Only [] w w') => depth_Work v0 l0 w' (HP.out.same ho) hok)
    have HS := Lib.hid (fun w' (ho : Only [] w w') => depth_Span v0 l0 w' (HP.out.same ho) hok)
    have HJ := Lib.hid (fun w' v' bs (ho : Only [] w w') (hb : InBits w' v' bs) => judge_Bits v0 v' l0 k bs w' (HP.out.same ho) hb)
    have HO := Lib.hid hok
    have HE := Lib.hid he
    have hk1 : 1 ≤ k := by omega
    have hk6 : k ≤ 6 := by omega
    clear he hok h1 h6 w1 bd1
    go_wp2_with fail
    refine hrun.mono ?_
    rintro e wb ⟨vb, s, rfl, hE, hOB, ho2⟩
    have hoo2 := hoo.trans ho2 (by simp)
    have hlen := gBits_work HO.out hk1 hE
    have hsw := gSum_workF HO.out
    have hbd := greedy_bounds HO.out hk1 hE
    have hwb := workF_bd HO.out
    have hsb := spanF_bd HO.out
    have HEE := Lib.hid hE
    have hbd5 : (s : Int) ≤ boundF l0 k := hbd.2.2.2
    obtain ⟨c1, c2, c3, _⟩ := hbd
    clear hrun hoo ho2 hE
    go_wp2_with fail
    refine (HL.out wb hoo2).mono ?_
    rintro e wc ⟨s', rfl, hE', hs6, ho3⟩
    obtain rfl := gEnd_unique hE' HEE.out
    have hin : Hid (InBits wc vb (gBits l0 k s')) := by
      show InBits _ _ _
      have := bits_in HO.out hk6 hs6 hOB
      exact ⟨this.1, this.2.1.same ho3, this.2.2⟩
    have hzero : Hid (bitsErrH l0 k (gBits l0 k s') = 0) := by
      show _ = _
      unfold bitsErrH
      rw [if_neg (by rw [HE.out]; simp)]
      exact gBits_ok HO.out hk1 HEE.out (by omega)
    obtain ⟨va, vc, rfl, _⟩ := hin.out.2.1.opt
    have HJ := Lib.hid (fun w' (ho : Only [] w w') (hb : InBits w' (.slice va (gBits l0 k s').length vc) (gBits l0 k s')) => HJ.out w' _ _ ho hb)
    rw [hzero.out, errV_zero] at HJ
    have hoo3 := hoo2.trans ho3 (by simp)
    have hm1 := mul_bd k s' hk6 hs6
    have hm2 := bound_num (spanF l0) k (by omega) (by omega) hsb
    rw [hlen] at HJ hin ⊢
    have hsw : ((gSum l0.length (wkOf l0) : Nat) : Int) = workF l0 := hsw
    obtain ⟨n, hn⟩ : ∃ n, gSum l0.length (wkOf l0) = n := ⟨_, rfl⟩
    rw [hn] at hsw HJ hin ⊢
    obtain ⟨B, hB⟩ : ∃ B, gBits l0 k s' = B := ⟨_, rfl⟩
    rw [hB] at HJ hin
    clear hlen hn hB hzero hE' HEE hOB ho3 hoo2 HE
    have HBo := Lib.hid (HB.out wc hoo3)
    go_wp2_with fail
    refine HBo.out.mono ?_
    rintro e wd ⟨rfl, ho4⟩
    have hoo4 := hoo3.trans ho4 (by simp)
    have hin := Lib.hid (hin.out.same ho4)
    clear HBo HB HL hoo3 ho4
    go_wp2_with fail
    refine (HW.out wd hoo4).mono ?_
    rintro e we ⟨rfl, ho5⟩
    have hoo5 := hoo4.trans ho5 (by simp)
    have hin := Lib.hid (hin.out.same ho5)
    clear HW hoo4 ho5
    go_wp2_with fail
    refine (HS.out we hoo5).mono ?_
    rintro e wf ⟨rfl, ho6⟩
    have hoo6 := hoo5.trans ho6 (by simp)
    have hin := Lib.hid (hin.out.same ho6)
    clear HS hoo5 ho6
    obtain ⟨W0, hW0⟩ : ∃ W0, workF l0 = W0 := ⟨_, rfl⟩
    obtain ⟨S0, hS0⟩ : ∃ S0, spanF l0 = S0 := ⟨_, rfl⟩
    obtain ⟨B0, hB0⟩ : ∃ B0, boundF l0 k = B0 := ⟨_, rfl⟩
    rw [hW0] at hsw hwb c2 c3 ⊢
    rw [hS0] at hsb c1 c3 hm2 ⊢
    rw [hB0] at hbd5 ⊢
    obtain ⟨M1, hM1⟩ : ∃ M1, (k : Int) * s' = M1 := ⟨_, rfl⟩
    obtain ⟨M2, hM2⟩ : ∃ M2, ((k : Int) - 1) * S0 = M2 := ⟨_, rfl⟩
    rw [hM1] at c2 c3 hm1
    rw [hM2] at c3 hm2
    clear hW0 hS0 hB0
    go_wp2_with fail
    refine (HJ.out wf hoo6 hin.out).mono ?_
    rintro e wg ⟨rfl, ho7⟩
    have hoo7 := hoo6.trans ho7 (by simp)
    go_wp2
    go_ret
    exact ⟨rfl, hoo7.below (Nat.le_refl _) (by simp)⟩
  · have hrun := greedy_Run_no v0 l0 a1 wa (HP.out.same hoo) he
    generalize hErr l0 a1 = f at *
    clear he
    go_wp2_with fail
    refine hrun.mono ?_
    rintro e wb ⟨rfl, ho2⟩
    have hoo2 := hoo.trans ho2 (by simp)
    clear hrun
    go_wp2
    go_ret
    exact ⟨rfl, hoo2.below (Nat.le_refl _) (by simp)⟩

end Go.Proofs.Ytmopbimineoogaa.greedyBound
