/-
  The statement JudgeSame: stays are bits, outright: stays that may be so are, bit by bit, bits that may be so, of which the last of each task is where it ends; with one bit less they may not. No condition but the listed variable's.
-/
import Derived.Test.YtmopbimineoogaaDoorP1JudgeSame
import Derived.Test.YtmopbimineoogaaDoorP3JudgeSame
import Derived.Test.YtmopbimineoogaaDoorP25JudgeSame
import Derived.Test.YtmopbimineoogaaDoorP29JudgeSame
import Derived.Test.YtmopbimineoogaaDoorP30JudgeSame
import Derived.Test.YtmopbimineoogaaDoorP31JudgeSame
import Derived.Test.YtmopbimineoogaaDoorP33JudgeSame
import Derived.Test.YtmopbimineoogaaDoorP34JudgeSame
namespace Go.Proofs.YtmopbimineoogaaDoor.judgeSame
open Go.ChangeShapes Go.WideShapes Go.ChangeAt Go.RowKit
open Go.ChangeMaps (open_string shut_string)
set_option linter.unusedVariables false


theorem litJ (W : World) : InPlan (W.alloc (.cells #[.int .i64 2, .slice none 0 0] 41)) (.slice (some ⟨W.heap.size, 0, none⟩) 1 1) [(2, [])] := by
  refine lit_plan (heap_alloc_at _ _ _ (by simp)) [(2, [])] (fun i => .slice none 0 0) ?_ (by simp) ?_
  · rfl
  · intro i hi
    have : i = 0 := by simp at hi; omega
    subst this
    exact .inl ⟨rfl, .inl rfl⟩
theorem litJ_ok : PlanOk [(2, [])] := litOk_ok (by decide)
theorem litJ_bits (W : World) : InBits (W.alloc (.cells #[.int .i64 0, .int .i64 0, .int .i64 0, .int .i64 1, .int .i64 0, .int .i64 0] 43)) (.slice (some ⟨W.heap.size, 0, none⟩) 2 2) [⟨0, 0, 0⟩, ⟨1, 0, 0⟩] := by
  refine ⟨fun b hb => ?_, ⟨rfl, flatB_one _, .inr ⟨by simp, W.heap.size, 0, 2, rfl, fun j y hy => ?_⟩⟩, by simp [maxLen]⟩
  · simp at hb
    rcases hb with rfl | rfl <;> exact ⟨wf_small (by simp) (by simp), wf_small (by simp) (by simp), wf_small (by simp) (by simp)⟩
  · rw [Nat.zero_add, World.cell?_alloc_new, ← hy, ← Array.getElem?_toList]
    rfl
theorem litJ_bad (W : World) : InBits (W.alloc (.cells #[.int .i64 0, .int .i64 0, .int .i64 0] 43)) (.slice (some ⟨W.heap.size, 0, none⟩) 1 1) [⟨0, 0, 0⟩] := by
  refine ⟨fun b hb => ?_, ⟨rfl, flatB_one _, .inr ⟨by simp, W.heap.size, 0, 1, rfl, fun j y hy => ?_⟩⟩, by simp [maxLen]⟩
  · simp at hb
    subst hb
    exact ⟨wf_small (by simp) (by simp), wf_small (by simp) (by simp), wf_small (by simp) (by simp)⟩
  · rw [Nat.zero_add, World.cell?_alloc_new, ← hy, ← Array.getElem?_toList]
    rfl
theorem litJ_0 : bitsErrH [(2, [])] 1 [⟨0, 0, 0⟩, ⟨1, 0, 0⟩] = 0 := by
  unfold bitsErrH
  rw [if_neg (by rw [hErr_ok litJ_ok (by omega) (by omega)]; simp)]
  decide
theorem litJ_5 : bitsErrH [(2, [])] 1 [⟨0, 0, 0⟩] = 5 := by
  unfold bitsErrH
  rw [if_neg (by rw [hErr_ok litJ_ok (by omega) (by omega)]; simp)]
  decide

theorem bits_of_stays {p : PlanL} {hands : Int} {ss : List St} (h : StaysOk p hands ss) (h6 : hands ≤ 6) (h30 : p.length ≤ 30) {w : World} {v : Value} {bs : List Bt} (hb : BitsAt w v bs) (hs : ∀ b ∈ bs, b ∈ bitsS ss) (hl : bs.length ≤ 1000) : InBits w v bs := by
  refine ⟨fun b hb => ?_, hb, by unfold maxLen; omega⟩
  have := bitsS_inR h b (hs b hb)
  unfold inR at this
  exact ⟨wf_small (by omega) (by omega), wf_small (by omega) (by omega), wf_small (by omega) (by omega)⟩
theorem bitsOf_push (s : St) (j : Nat) (hj : j < (bitsOf s).length) : (bitsOf s).take (j + 1) = (bitsOf s).take j ++ [⟨s.frm + (j : Int), s.hand, s.task⟩] := by
  rw [List.take_succ_eq_append_getElem hj]
  simp [bitsOf]

set_option maxHeartbeats 16000000 in
set_option maxRecDepth 100000 in
theorem walk (v0 : Value) (l0 : PlanL) (a1 : Int) (v2 : Value) (l2 : List St) (a3 : Int) (w : World) (hglob : Glob w) (w0 : ArgPlan w v0 l0) (w1 : (Lit.int .i64 a1).wf = true) (w2 : InStays w v2 l2) (w3 : (Lit.int .i64 a3).wf = true) :
    Calls Tryd.prog 4 #[v0, .int .i64 a1, v2, .int .i64 a3] w fun e w' => e = .returned (.bool true) ∧ Below w.heap.size w w' := by
  have bd1 := bounds_i64 w1
  have bd3 := bounds_i64 w3
  have HP := Lib.hid w0.2
  have HG := Lib.hid hglob
  have HS := Lib.hid w2
  have hm2 : l2.length ≤ 9223372036854775807 := by have := w2.2.2.1; unfold maxLen at this; omega
  have HJS := Lib.hid (fun w' (ho : Only [] w w') => judge_Stays v0 v2 l0 a1 l2 w' (HP.out.same ho) (HS.out.same ho).2.1 hm2 HS.out.2.2.2)
  have HJE := Lib.hid (fun w' v' bs (ho : Only [] w w') (hb : InBits w' v' bs) => judge_Ends v0 v' l0 a1 bs w' (HP.out.same ho) hb)
  have HJB := Lib.hid (fun w' v' bs (ho : Only [] w w') (hb : InBits w' v' bs) => judge_Bits v0 v' l0 a1 bs w' (HP.out.same ho) hb)
  clear hglob w0 w1 w2 w3
  have ho1 := (Only.refl [] w).alloc (.cells #[.int .i64 2, .slice none 0 0] 41)
  have hl1 := litJ w
  obtain ⟨w1, hw1⟩ : ∃ w1, w.alloc (.cells #[.int .i64 2, .slice none 0 0] 41) = w1 := ⟨_, rfl⟩
  rw [hw1] at ho1 hl1
  have hal := (Only.refl [] w1).alloc (.cells #[.int .i64 0, .int .i64 0, .int .i64 0, .int .i64 1, .int .i64 0, .int .i64 0] 43)
  have hj1 := judge_Bits _ _ _ 1 _ _ (hl1.same hal) (litJ_bits w1)
  rw [litJ_0, errV_zero] at hj1
  have ho2 := ho1.trans hal (by simp)
  have HL1 := Lib.hid (hl1.same hal)
  clear hl1 hal ho1
  go_enter Tryd.func4, Tryd.ntmps4
  go_wp2_with fail
  refine hj1.mono ?_
  rintro e w2 ⟨rfl, ho3⟩
  have hal := (Only.refl [] w2).alloc (.cells #[.int .i64 0, .int .i64 0, .int .i64 0] 43)
  have hj2 := judge_Bits _ _ _ 1 _ _ ((HL1.out.same ho3).same hal) (litJ_bad w2)
  rw [litJ_5, errV_ne (by decide)] at hj2
  have ho3 := (ho2.trans ho3 (by simp)).trans hal (by simp)
  clear hj1 HL1 hal ho2 hw1
  go_wp2_with fail
  refine hj2.mono ?_
  rintro e w3 ⟨rfl, ho4⟩
  have ho4 := ho3.trans ho4 (by simp)
  have hg4 := HG.out.only ho4
  clear hj2 ho3
  go_wp2_with fail
  refine (same_err 5 5 w3 hg4 true rfl).mono ?_
  rintro e w4 ⟨rfl, ho5⟩
  have ho5 := ho4.trans ho5 (by simp)
  clear hg4 ho4
  go_wp2_with fail
  have hjs := HJS.out w4 ho5
  by_cases he : staysErrH l0 a1 l2 = 0
  · rw [he, errV_zero] at hjs
    have h0 : hErr l0 a1 = 0 := by
      by_cases hx : hErr l0 a1 = 0
      · exact hx
      · rw [staysH_h hx] at he; exact absurd he hx
    obtain ⟨hok, h1, h6⟩ := hErr_zero h0
    have hse : staysErr l0 a1 l2 = 0 := by
      unfold staysErrH at he
      rw [if_neg (by simp [h0])] at he; exact he
    have hSO := staysOk_of hse
    have HSO := Lib.hid hSO
    have HO := Lib.hid hok
    have h30 := hok.len
    have hm30 : l2.length ≤ 30 := by have := hSO.len; omega
    have HLEN := Lib.hid (fun k => bitsS_len hok hSO k)
    have hB0 : bitsErrH l0 a1 (bitsS l2) = 0 := by
      unfold bitsErrH
      rw [if_neg (by simp [h0])]
      exact bitsS_ok hok hSO
    have hBL : Hid (∀ k, k < (bitsS l2).length → bitsErrH l0 a1 ((bitsS l2).take k ++ (bitsS l2).drop (k + 1)) = 5) := fun k hk => by
      unfold bitsErrH
      rw [if_neg (by simp [h0])]
      exact bitsS_less hSO hk
    have HB0 := Lib.hid hB0
    have HIN := Lib.hid (fun w' v' bs (hb : BitsAt w' v' bs) (hs : ∀ b ∈ bs, b ∈ bitsS l2) (hl : bs.length ≤ 1000) => bits_of_stays hSO h6 h30 hb hs hl)
    obtain ⟨sa, sc, rfl, hsa⟩ := HS.out.2.1.opt
    obtain ⟨va, vc, rfl, hvc, _⟩ := HP.out.task
    obtain ⟨m, hm⟩ : ∃ m, l2.length = m := ⟨_, rfl⟩
    obtain ⟨n, hn⟩ : ∃ n, l0.length = n := ⟨_, rfl⟩
    have HM := Lib.hid hm
    have HN := Lib.hid hn
    have HSA := Lib.hid hsa
    rw [hm] at hm30 hjs HSA hm2 ⊢
    rw [hn] at h30 hjs HJE HJB hvc ⊢
    clear HJS he h0 hok hse hSO hB0 hm hn hsa
    refine hjs.mono ?_
    rintro e w5 ⟨rfl, ho6⟩
    have ho6 := ho5.trans ho6 (by simp)
    clear hjs ho5
    go_wp2_with fail
    go_loopw [13, 14, 15] (fun vl vi _ wr => ∃ i : Nat, i ≤ m ∧ vi = .int .i64 i ∧ OwnBits wr w.heap.size vl (bitsS (l2.take i)) ∧ Only [] w wr) (fun _ vi _ _ => m - (intOf vi).toNat)
    case atStart => exact ⟨0, Nat.zero_le _, rfl, World.ownsRow_nil _ _ _ _, ho6⟩
    case round =>
      clear ho6
      obtain ⟨wo, rfl⟩ : ∃ wo : World, wo = wr := ⟨_, rfl⟩
      obtain ⟨i, hi, rfl, hO, ho⟩ := hrel
      by_cases him : i < m
      · -- <<
        as_aux_lemma =>
        have hib : i < l2.length := by rw [HM.out]; exact him
        obtain ⟨sb, so, rfl, k0, k1, k2, k3⟩ := HSA.out i him
        have hmem := HSO.out.mem _ (stAt_mem hib)
        have hlen := HLEN.out i
        have HPU := Lib.hid (bitsS_push (l2.take i) (stAt l2 i))
        rw [← take_st l2 i hib] at HPU
        have hwk := (HO.out.work (stAt l2 i).task.toNat (by omega)).2
        have HBP := Lib.hid (fun j hj => bitsOf_push (stAt l2 i) j hj)
        have hbl := bitsOf_len (s := stAt l2 i)
        obtain ⟨s9, hs9⟩ : ∃ s9, stAt l2 i = s9 := ⟨_, rfl⟩
        rw [hs9] at k0 k1 k2 k3 hmem HPU HBP hwk hbl
        obtain ⟨x, y, f, t⟩ := s9
        simp only at k0 k1 k2 k3 hmem hwk hbl
        obtain ⟨W, hW⟩ : ∃ W : Nat, t = f + (W : Int) := ⟨(t - f).toNat, by omega⟩
        subst hW
        have hW20 : W ≤ 20 := by omega
        have hbl : (bitsOf ⟨x, y, f, f + (W : Int)⟩).length = W := by rw [hbl]; omega
        have HBLN := Lib.hid hbl
        have hf0 := hmem.2.2.2.2.1
        have hf1 : f ≤ 10000 := by omega
        clear hs9 hbl hmem hwk
        obtain ⟨w6, rfl⟩ : ∃ w6 : World, w6 = wo := ⟨_, rfl⟩
        have c2 := (ho.cell (p := ⟨sb, _, none⟩) (cell_lt k2) (by simp)).trans k2
        go_wp2_with fail
        clear c2
        go_loopw [13, 15] (fun vl vt wr => ∃ j : Nat, j ≤ W ∧ vt = .int .i64 (f + (j : Int)) ∧ OwnBits wr w.heap.size vl (bitsS (l2.take i) ++ (bitsOf ⟨x, y, f, f + (W : Int)⟩).take j) ∧ Only [] w wr) (fun _ vt _ => W - (intOf vt - f).toNat)
        case atStart => exact ⟨0, Nat.zero_le _, by simp, by simpa using hO, ho⟩
        case round =>
          clear hO ho
          obtain ⟨wz, rfl⟩ : ∃ wz : World, wz = wr := ⟨_, rfl⟩
          obtain ⟨j, hj, rfl, hO, ho⟩ := hrel
          have c0 := (ho.cell (p := ⟨sb, _, none⟩) (cell_lt k0) (by simp)).trans k0
          have c1 := (ho.cell (p := ⟨sb, _, none⟩) (cell_lt k1) (by simp)).trans k1
          have c2 := (ho.cell (p := ⟨sb, _, none⟩) (cell_lt k2) (by simp)).trans k2
          have c3 := (ho.cell (p := ⟨sb, _, none⟩) (cell_lt k3) (by simp)).trans k3
          by_cases hjw : j < W
          · have hpush := Lib.hid (flatB_push (bitsS (l2.take i) ++ (bitsOf ⟨x, y, f, f + (W : Int)⟩).take j) ⟨f + (j : Int), x, y⟩)
            have hbp := Lib.hid (HBP.out j (by rw [HBLN.out]; exact hjw))
            have hown : wz.ownsRow w.heap.size 43 3 u13 (bitsS (l2.take i) ++ (bitsOf ⟨x, y, f, f + (W : Int)⟩).take j).length (flatB (bitsS (l2.take i) ++ (bitsOf ⟨x, y, f, f + (W : Int)⟩).take j)) := hO
            have hlq : (bitsS (l2.take i) ++ (bitsOf ⟨x, y, f, f + (W : Int)⟩).take j).length + 1 ≤ 1000000 := by
              rw [List.length_append, List.length_take]; omega
            obtain ⟨q, hq⟩ : ∃ q, (bitsS (l2.take i) ++ (bitsOf ⟨x, y, f, f + (W : Int)⟩).take j).length = q := ⟨_, rfl⟩
            have HQ := Lib.hid hq
            rw [hq] at hown hlq
            have hfar := Lib.hid (fun g hg => (Row.far hown g hg).1)
            obtain ⟨la, lc, rfl, _⟩ := Row.form hown
            have hsz := ho.size
            have hrow : Hid (∀ d : Nat, ∀ r u, [Value.int .i64 (f + (j : Int)), .int .i64 x, .int .i64 y][r]? = some u → ((wz.alloc (.cells #[.int .i64 (f + (j : Int)), .int .i64 x, .int .i64 y] 43)).drewN d).cell? ⟨wz.heap.size, r, none⟩ = some u) := by
              show ∀ d, _
              intro d r u hr
              exact (Cells.new wz #[.int .i64 (f + (j : Int)), .int .i64 x, .int .i64 y] 43).cell r u hr
            have hal := (Only.refl [] wz).alloc (.cells #[.int .i64 (f + (j : Int)), .int .i64 x, .int .i64 y] 43)
            have d0 := (hal.cell (p := ⟨sb, _, none⟩) (cell_lt c0) (by simp)).trans c0
            have d1 := (hal.cell (p := ⟨sb, _, none⟩) (cell_lt c1) (by simp)).trans c1
            have HO2 := Lib.hid ho
            clear hq hO hal ho
            go_wp2_with fail
            refine wp_region_seqL [_, _, _, _, _, _, _, _, _, _, _, _, _, _, _] _ [13, 14] [[(0, 1)]] (by kernel_rfl) rfl (by kernel_rfl) (by kernel_rfl) (by kernel_rfl) (by kernel_rfl) rfl rfl ?_
            simp only [segsOf, runW, List.getElem?_cons_succ, List.getElem?_cons_zero, List.take_succ_cons, List.take_zero, List.drop_succ_cons, List.drop_zero, Nat.reduceAdd, Nat.reduceSub]
            repeat still_step
            refine wpStill_nil ?_
            refine writes_step fun K1 hK1 => ?_
            unfold writesThen
            go_simp
            refine hK1 _ _ ?_
            clear hK1 K1
            refine wpStill_nil ?_
            refine writes_rows sliceOf_bits (.tmp 79) (.tmp 92) rfl wz w.heap.size _ _ _ wz.heap.size _ hown (by omega) hsz rfl rfl ((Only.refl [] _).alloc _).drew rfl (hrow.out 1) (by intro u hu; simp at hu; rcases hu with rfl | rfl | rfl <;> rfl) ?_
            intro g cap2 w7 hI7 hO7 hK7
            simp only [lateW, List.nil_append, List.cons_append, List.drop_succ_cons, List.drop_zero, List.flatMap_cons, List.flatMap_nil, List.take_succ_cons, List.take_zero, List.append_nil, List.getElem?_cons_succ, List.getElem?_cons_zero, Option.getD_some, List.length_cons, List.length_nil, Nat.reduceAdd, and_true]
            refine ⟨?_, ?_⟩
            · repeat still_step
              exact wpStill_nil rfl
            have hOB : Hid (OwnBits w7 w.heap.size (.slice (some ⟨g, 0, none⟩) (q + 1) cap2) (bitsS (l2.take i) ++ (bitsOf ⟨x, y, f, f + (W : Int)⟩).take (j + 1))) := by
              show OwnBits _ _ _ _
              unfold OwnBits
              rw [hbp.out, ← List.append_assoc, ← hpush.out, List.length_append, HQ.out, List.length_singleton]
              exact hI7
            have ho7 := Lib.hid (HO2.out.trans hO7 (fun a ha hl => by have := hfar.out a ha; omega))
            clear hI7 hO7 hK7 c0 c1 c2 c3 d0 d1
            go_wp2
            go_roundw
            case rel => exact ⟨j + 1, by omega, by go_num, hOB.out, ho7.out⟩
            case measure => (simp [intOf]; try omega)
          · obtain rfl : j = W := by omega
            have hOB : Hid (OwnBits wz w.heap.size u13 (bitsS (l2.take (i + 1)))) := by
              show OwnBits _ _ _ _
              have e : (bitsOf ⟨x, y, f, f + (j : Int)⟩).take j = bitsOf ⟨x, y, f, f + (j : Int)⟩ := List.take_of_length_le (by rw [HBLN.out]; exact Nat.le_refl _)
              rw [HPU.out, ← e]; exact hO
            have ho7 := Lib.hid ho
            clear hO ho
            go_wp2
            go_roundw
            case rel => exact ⟨i + 1, by omega, by go_num, hOB.out, ho7.out⟩
            case measure => (simp [intOf]; try omega)
        -- >>
      · -- <<
        as_aux_lemma =>
        obtain rfl : i = m := by omega
        have hfull : l2.take i = l2 := List.take_of_length_le (by rw [HM.out]; exact Nat.le_refl _)
        rw [hfull] at hO
        have hlen := HLEN.out i
        rw [hfull] at hlen
        have hlt : (bitsS l2).length ≤ 600 := by omega
        obtain ⟨la, lc, rfl, hlc, hlm, hla⟩ := Row.form hO
        have hat := Lib.hid hO.at
        obtain ⟨q, hq⟩ : ∃ q, (bitsS l2).length = q := ⟨_, rfl⟩
        have HQ := Lib.hid hq
        have hin6 := HIN.out wo _ (bitsS l2) hO.at (fun b hb => hb) (by omega)
        have hje := HJE.out wo _ (bitsS l2) ho hin6
        rw [HB0.out, errV_zero] at hje
        rw [hq] at hje hlc hla hat hlt ⊢
        clear hfull hlen hO hq hin6 him hi
        go_wp2_with fail
        refine hje.mono ?_
        rintro e w7 ⟨vx, rfl, hV, ho7⟩
        have hat7 := Lib.hid (hat.out.same ho7)
        have ho7 := ho.trans ho7 (by simp)
        rcases hV with ⟨hx, _⟩ | ⟨_, B, rfl, _, hN⟩
        · exact absurd rfl hx
        clear hje hat ho
        go_wp2_with fail
        go_loopw [18] (fun vi wr => ∃ j : Nat, j ≤ i ∧ vi = .int .i64 j ∧ Only [] w7 wr) (fun vi _ => i - (intOf vi).toNat)
        case atStart => exact ⟨0, Nat.zero_le _, rfl, Only.refl _ _⟩
        case round =>
          obtain ⟨wy, rfl⟩ : ∃ wy : World, wy = wr := ⟨_, rfl⟩
          obtain ⟨j, hj, rfl, hoy⟩ := hrel
          have ho := ho7.trans hoy (by simp)
          by_cases hji : j < i
          · have hjb : j < l2.length := by rw [HM.out]; exact hji
            obtain ⟨sb, so, rfl, k0, k1, k2, k3⟩ := HSA.out j hji
            have hmem := HSO.out.mem _ (stAt_mem hjb)
            have hwk := HO.out.work (stAt l2 j).task.toNat (by omega)
            have hlast := lastF_stays HSO.out.pair (stAt_mem hjb) hmem.2.2.2.2.1 (by omega)
            have c1 := (ho.cell (p := ⟨sb, _, none⟩) (cell_lt k1) (by simp)).trans k1
            have c3 := (ho.cell (p := ⟨sb, _, none⟩) (cell_lt k3) (by simp)).trans k3
            obtain ⟨s9, hs9⟩ : ∃ s9, stAt l2 j = s9 := ⟨_, rfl⟩
            rw [hs9] at c1 c3 hmem hwk hlast
            obtain ⟨x, y, f, t⟩ := s9
            simp only at c1 c3 hmem hwk hlast
            obtain ⟨_, _, hy0, hyn, hf0, hft, ht1, hwt⟩ := hmem
            obtain ⟨y, rfl⟩ := Int.eq_ofNat_of_zero_le hy0
            rw [HN.out] at hyn
            have hyn2 : y < n := by omega
            have cL : wy.cell? ⟨B, y, none⟩ = some (.int .i64 (t - 1)) := by
              have := ((hN.only hoy (by simp)) y hyn2).1
              simp only [hlast] at this
              exact this
            have hwr : IntKind.i64.wrap (t - 1) = t - 1 := IntWalk.i64_in _ (by omega)
            have HOY := Lib.hid hoy
            clear hs9 k0 k1 k2 k3 hlast hwk hwt hoy ho
            go_wp2_with fail
            go_quiet (fail)
            go_wp2
            go_roundw
            case rel => exact ⟨j + 1, by omega, by go_num, HOY.out.drewN _⟩
            case measure => (simp [intOf]; try omega)
          · obtain rfl : j = i := by omega
            have hat8 := Lib.hid (hat7.out.same hoy)
            clear hat7 hoy hN hj hji ho7
            by_cases hk0 : a3 < 0
            · go_wp2
              go_ret
              exact ⟨by rfl, ho.below (Nat.le_refl _) (by simp)⟩
            · obtain ⟨k, rfl⟩ := Int.eq_ofNat_of_zero_le (show 0 ≤ a3 by omega)
              by_cases hkq : q ≤ k
              · clear hk0
                go_wp2
                go_ret
                exact ⟨by rfl, ho.below (Nat.le_refl _) (by simp)⟩
              · have hkq' : k < q := by omega
                obtain ⟨g, rfl, _, hg⟩ := hla (by omega)
                have hu1 : Hid (RowAt wy (.slice (some ⟨g, 0, none⟩) k lc) k 3 (flatB ((bitsS l2).take k))) := by
                  show RowAt _ _ _ _ _
                  have := BitsAt.part hat8.out 0 k lc (Nat.zero_le _) (by rw [HQ.out]; omega)
                  simpa using this
                have hu2 : Hid ((lc = k + 1 ∧ q = k + 1 ∧ RowAt wy (.slice (some ⟨g, 0, none⟩) 0 0) 0 3 (flatB ((bitsS l2).drop (k + 1)))) ∨
                    (k + 1 < lc ∧ RowAt wy (.slice (some ⟨g, (k + 1) * 3, none⟩) (q - (k + 1)) (lc - (k + 1))) (q - (k + 1)) 3 (flatB ((bitsS l2).drop (k + 1))))) := by
                  show _ ∨ _
                  by_cases hcap : lc = k + 1
                  · have hqk : q = k + 1 := by omega
                    refine .inl ⟨hcap, hqk, ?_⟩
                    rw [List.drop_eq_nil_of_le (by rw [HQ.out, hqk]; exact Nat.le_refl _)]
                    exact ⟨rfl, fun y hy => by simp [flatB] at hy, .inl ⟨rfl, .inr ⟨_, 0, rfl⟩⟩⟩
                  · refine .inr ⟨by omega, ?_⟩
                    have := BitsAt.part hat8.out (k + 1) q (lc - (k + 1)) (by omega) (by rw [HQ.out]; exact Nat.le_refl _)
                    rwa [List.take_of_length_le (by rw [HQ.out]; exact Nat.le_refl _)] at this
                have hs8 := ho.size
                have hnil : Hid (wy.ownsRow w.heap.size 43 3 (.slice none 0 0) 0 []) := World.ownsRow_nil _ _ _ _
                have hb5 := Lib.hid (hBL.out k (by rw [HQ.out]; exact hkq'))
                have hmm : Hid (∀ b ∈ (bitsS l2).take k ++ (bitsS l2).drop (k + 1), b ∈ bitsS l2) := fun b hb => by
                  rcases List.mem_append.1 hb with hb | hb
                  · exact List.mem_of_mem_take hb
                  · exact List.mem_of_mem_drop hb
                have hll : Hid (((bitsS l2).take k ++ (bitsS l2).drop (k + 1)).length = q - 1) := by
                  show _ = _
                  rw [List.length_append, List.length_take, List.length_drop, HQ.out]; omega
                clear hla hk0 hkq
                rcases hu2.out with ⟨hc1, hq1, hr2⟩ | ⟨hc1, hr2⟩
                all_goals
                  try subst hc1
                  try subst hq1
                  have hr2 := Lib.hid hr2
                  clear hu2
                  go_wp2_with (at_builtin; first | (refine wpList_append_rows sliceOf_bits rfl (.tmp 157) (.tmp 160) rfl wy w.heap.size _ 0 [] _ k _ hnil.out hu1.out (by omega) hs8 rfl rfl (Only.refl _ _) ?_; intro v8 w8 hI8 hO8 hK8) | (refine wpList_append_rows sliceOf_bits rfl (.tmp 162) (.tmp 166) rfl w8 w.heap.size _ (0 + k) _ _ _ _ hI8 (hr2.out.same (by simpa [own, Value.ownBlock] using hO8)) (by omega) (by have := hO8.size; omega) rfl rfl (Only.refl _ _) ?_; intro v9 w9 hI9 hO9 hK9))
                  have hOB : OwnBits w9 w.heap.size v9 ((bitsS l2).take k ++ (bitsS l2).drop (k + 1)) := by
                    unfold OwnBits
                    rw [hll.out, flatB_app]
                    first
                      | (have e : 0 + k + (q - (k + 1)) = q - 1 := by omega
                         rw [e] at hI9; simpa using hI9)
                      | (have e : 0 + k + 0 = k + 1 - 1 := by omega
                         rw [e] at hI9; simpa using hI9)
                  have hfar8 := fun g9 (hg9 : g9 ∈ own v8) => (Row.far hI8 g9 hg9).1
                  have hoo9 : Only [] w w9 := (ho.trans hO8 (fun x hx _ => by simp [own, Value.ownBlock] at hx)).trans hO9 (fun x hx hl => by have := hfar8 x hx; omega)
                  have hin9 := HIN.out w9 v9 _ hOB.at hmm.out (by rw [hll.out]; omega)
                  have hjb := HJB.out w9 v9 _ hoo9 hin9
                  rw [hb5.out, errV_ne (by decide)] at hjb
                  clear hOB hin9 hI8 hO8 hK8 hI9 hO9 hK9 hfar8 hr2 hs8 ho
                  go_wp2_with fail
                  refine hjb.mono ?_
                  rintro e wA ⟨rfl, hoA⟩
                  have hoA := hoo9.trans hoA (by simp)
                  have hgA := HG.out.only hoA
                  clear hjb hoo9
                  go_wp2_with fail
                  refine (same_err 5 5 wA hgA true rfl).mono ?_
                  rintro e wB ⟨rfl, hoB⟩
                  have hoB := hoA.trans hoB (by simp)
                  go_wp2
                  go_ret
                  exact ⟨by rfl, hoB.below (Nat.le_refl _) (by simp)⟩
        -- >>
  · rw [errV_ne he] at hjs
    generalize staysErrH l0 a1 l2 = f at *
    clear he
    go_wp2_with fail
    refine hjs.mono ?_
    rintro e w5 ⟨rfl, ho6⟩
    have ho6 := ho5.trans ho6 (by simp)
    go_wp2
    go_ret
    exact ⟨by rfl, ho6.below (Nat.le_refl _) (by simp)⟩

end Go.Proofs.YtmopbimineoogaaDoor.judgeSame
