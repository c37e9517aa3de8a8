/-
  The statement JoinPlays: what is ready now, what becomes ready when a task is done, how a task stands, and how many are left. No condition but the listed variable's.
-/
import Derived.Test.YtadjcooemeaaeaaDoorFrame
import Derived.Test.YtadjcooemeaaeaaDoorTellFrame
import Derived.Test.YtadjcooemeaaeaaDoorRPlan
import Derived.Test.YtadjcooemeaaeaaDoorLReady
import Derived.Test.YtadjcooemeaaeaaDoorErrV
import Derived.Test.YtadjcooemeaaeaaDoorJoinW
import Derived.Test.YtadjcooemeaaeaaDoorSame
import Derived.Test.YtadjcooemeaaeaaDoorRefIn
namespace Go.Proofs.YtadjcooemeaaeaaDoor.joinPlays
open Go.ChangeShapes Go.WideShapes Go.ChangeAt Go.RowKit
open Go.ChangeMaps (open_string shut_string)
set_option linter.unusedVariables false


theorem filter_take_succ (l : List Int) (f : Int → Bool) (j : Nat) (hj : j < l.length) : (l.take (j + 1)).filter f = if f (nth l j) = true then (l.take j).filter f ++ [nth l j] else (l.take j).filter f := by
  rw [take_succ_nth l j hj, List.filter_append]
  by_cases h : f (nth l j) = true
  · rw [if_pos h]; simp [h]
  · rw [if_neg h]; simp [h]

theorem readyL_len (p : PlanL) (D : Nat → Bool) : (natL (readyL p D)).length ≤ p.length := by
  rw [natL_len]
  have := List.length_filter_le (readyB p D) (List.range p.length)
  simpa [readyL] using this

set_option maxHeartbeats 16000000 in
set_option maxRecDepth 100000 in
theorem walk (v0 : Value) (l0 : PlanL) (v1 : Value) (l1 : List Int) (a2 : Int) (w : World) (hglob : Glob w) (w0 : ArgPlan w v0 l0) (w1 : InInts w v1 l1) (w2 : (Lit.int .i64 a2).wf = true) :
    Calls Tryd.prog 7 #[v0, v1, .int .i64 a2] w fun e w' => e = .returned (.bool true) ∧ Below w.heap.size w w' := by
  have hp := w0.2
  have HI := Lib.hid w1
  have HBD := Lib.hid w1.bounds
  have bd2 := bounds_i64 w2
  have HG := Lib.hid hglob
  clear hglob w0 w1 w2
  have hR := ref_Right v0 l0 w hp
  by_cases h0 : planFault l0 = 0
  · have hok := (planOk_iff l0).2 h0
    have HOK := Lib.hid hok
    have HP := Lib.hid hp
    have hneed := Lib.hid (needsOk hok.len hok.fault)
    rw [h0] at hR
    have hN := Lib.hid (fun w1 (ho : Only [] w w1) => Join.new v0 l0 w1 (hp.same ho) hok)
    obtain ⟨a, cap, rfl, hc1, hc2, _⟩ := hp.task
    obtain ⟨n, hn⟩ : ∃ n, l0.length = n := ⟨_, rfl⟩
    have HL := Lib.hid hn
    have h30 := hok.len
    rw [hn] at hc1 h30 HP hR hN ⊢
    have hmk := make_bools n (by omega)
    obtain ⟨ia, ic, rfl, hic⟩ := HI.out.opt
    obtain ⟨m, hm⟩ : ∃ m, l1.length = m := ⟨_, rfl⟩
    have HM := Lib.hid hm
    rw [hm] at hic ⊢
    have HIC := Lib.hid hic
    have hm9 : m ≤ 9223372036854775807 := by have := HI.out.len; unfold maxLen at this; omega
    clear hp h0 hok hc2 hn hm hic HI
    go_enter Tryd.func7, Tryd.ntmps7
    go_wp2_with fail
    refine hR.mono ?_
    rintro e w1 ⟨rfl, ho1⟩
    have hN1 := hN.out w1 ho1
    clear hR hN
    go_wp2_with fail
    refine hN1.mono ?_
    rintro e w2 ⟨J, S, FP, rfl, hJ, hS, hFP, ho2⟩
    have hsz1 := ho1.size
    have hsz2 := ho2.size
    have ho2 := ho1.trans ho2 (by simp)
    clear hN1 ho1
    go_wp2_with fail
    refine (same_nil 0 _ true rfl).mono ?_
    rintro e w3 ⟨rfl, rfl⟩
    have hSA : ∀ x ∈ S, w.heap.size ≤ x ∧ x < w2.heap.size := fun x hx => by have := hS x hx; omega
    have hFA : ∀ x, FP x → w.heap.size ≤ x ∧ x < w2.heap.size := fun x hx => by have := hFP x hx; omega
    have HSA := Lib.hid hSA
    have HFA := Lib.hid hFA
    have hwA : Hid (w.heap.size ≤ w2.heap.size) := ho2.size
    have hJ0 : Hid (JoinIs (w2.alloc (.cells (madeCells #[.bool false] n) 4)) S FP J l0 (fun _ => false)) := hJ.same ((Only.refl [] w2).alloc _)
    have hB0 : Hid (Bools (w2.alloc (.cells (madeCells #[.bool false] n) 4)) w2.heap.size n (fun _ => false)) := made_bools w2 n
    have hO0 : Hid (Only [] w (w2.alloc (.cells (madeCells #[.bool false] n) 4))) := ho2.alloc _
    have hl0 : Hid ((n : Int) = (leftN l0 (fun _ => false) : Nat)) := by show _ = _; rw [left_none, HL.out]
    clear hS hFP hSA hFA hJ ho2 hsz1 hsz2
    go_wp2_with fail
    go_loopw [7, 10, 12, 13, 14, 15, 16, 17, 18, 19, 20, 21, 22, 23, 24, 25, 26] (fun _ _ vl vi _ _ _ _ _ _ _ _ _ _ _ _ _ wr => ∃ k : Nat, k ≤ m ∧ k ≤ 60 ∧ vi = .int .i64 k ∧ ∃ D, vl = .int .i64 (leftN l0 D : Nat) ∧ JoinIs wr S FP J l0 D ∧ Bools wr w2.heap.size n D ∧ Closed l0 D ∧ w2.heap.size < wr.heap.size ∧ Only [] w wr) (fun _ _ _ vi _ _ _ _ _ _ _ _ _ _ _ _ _ _ => 60 - (intOf vi).toNat)
    case atStart => exact ⟨0, Nat.zero_le _, by omega, rfl, _, by rw [hl0.out], hJ0.out, hB0.out, closed_none _, by simp, hO0.out⟩
    case round =>
      clear hJ0 hB0 hO0 hl0
      generalize w2.heap.size = A at *
      obtain ⟨wo, rfl⟩ : ∃ wo : World, wo = wr := ⟨_, rfl⟩
      obtain ⟨k, hk, hk6, rfl, D, rfl, hJ, hB, hC, hAo, ho⟩ := hrel
      have HC := Lib.hid hC
      have HJ := Lib.hid hJ
      have HB := Lib.hid hB
      clear hC hJ hB
      by_cases hlt : k < m ∧ k < 60
      · obtain ⟨hlt, hlt6⟩ := hlt
        obtain ⟨ib, io, rfl, hcx⟩ := HIC.out k hlt
        obtain ⟨x, hx⟩ : ∃ x, nth l1 k = x := ⟨_, rfl⟩
        have hxb := HBD.out x (by rw [← hx]; unfold nth; rw [List.getElem?_eq_getElem (by rw [HM.out]; exact hlt)]; exact List.getElem_mem _)
        rw [hx] at hcx
        have HX : Hid (∀ w', Only [] w w' → w'.cell? ⟨ib, io + k, none⟩ = some (.int .i64 x)) := fun w' ho' => (ho'.cell (p := ⟨ib, io + k, none⟩) (cell_lt hcx) (by simp)).trans hcx
        have hrd := law_ready _ l0 A n D wo (HP.out.same ho) hneed.out HB.out HL.out
        clear hx hcx hc1 hk hk6
        go_wp2_with fail
        refine hrd.mono ?_
        rintro e wq ⟨u, rfl, hIu, hoq⟩
        have HIU := Lib.hid hIu
        have HOQ : Hid (Only [] w wq) := ho.trans hoq (by simp)
        have hqs := hoq.size
        have HJq := Lib.hid (HJ.out.same hoq)
        have HBq := Lib.hid (HB.out.only hoq (by simp))
        have cxq := HX.out wq HOQ.out
        clear hrd hIu hoq ho HJ HB
        have hAq : A < wq.heap.size := by omega
        go_upto_region 14 with (fail)
        go_cut [75] (fun vc wx => vc = .bool (!inR l0 x) ∧ wq = wx)
        case first =>
          as_aux_lemma =>
            by_cases hx : 0 ≤ x ∧ x < (n : Int)
            · obtain ⟨hx0, hx1⟩ := hx
              have hi : Hid (inR l0 x = true) := by show _ = _; unfold inR; rw [HL.out]; simp; omega
              go_wp2
              go_meet
              exact ⟨by rw [hi.out]; exact congrArg Value.bool (by simp; omega), rfl⟩
            · have hi : Hid (inR l0 x = false) := by show _ = _; unfold inR; rw [HL.out]; simp; omega
              have hx2 : x < 0 ∨ (0 ≤ x ∧ (n : Int) ≤ x) := by omega
              clear hx
              rcases hx2 with h | ⟨h, h'⟩
              all_goals
                go_wp2
                go_meet
                exact ⟨by rw [hi.out]; exact congrArg Value.bool (by simp; try omega), rfl⟩
        case rest =>
        obtain ⟨rfl, rfl⟩ := hcut
        go_upto_if 75 with (fail)
        go_cut [7, 12, 16] (fun ve vl vf wx => ve = .int .i64 (doneE l0 D x) ∧ vl = .int .i64 (leftN l0 (doneD l0 D x) : Nat) ∧ Bools wx A n (doneD l0 D x) ∧ Only [A] wq wx)
        case first =>
          as_aux_lemma =>
            by_cases hx : 0 ≤ x ∧ x < (n : Int)
            · obtain ⟨hx0, hx1⟩ := hx
              obtain ⟨y, rfl⟩ := Int.eq_ofNat_of_zero_le hx0
              have hyn : y < n := by omega
              have hyl : y < l0.length := by rw [HL.out]; exact hyn
              have hi : inR l0 (y : Int) = true := by unfold inR; rw [HL.out]; simp; omega
              rw [hi]
              have hF := ref_Free _ l0 y A n D wq (HP.out.same HOQ.out) hneed.out HBq.out hyl HL.out
              have hrf := ready_free l0 D y
              have cb := (HBq.out y hyn).1
              have fb := (HBq.out y hyn).2
              obtain ⟨f, hf⟩ : ∃ f, freeB l0 D y = f := ⟨_, rfl⟩
              obtain ⟨d, hd⟩ : ∃ d, D y = d := ⟨_, rfl⟩
              rw [hf] at hF hrf
              rw [hd] at hrf cb
              have HDY := Lib.hid hd
              clear hf hx0 hx1 hd
              by_cases hr : f = true ∧ d = false
              · obtain ⟨rfl, rfl⟩ := hr
                obtain ⟨e1, e2, e3⟩ := done_yes (D := D) hyl (by rw [hrf]; rfl)
                have hlu := left_up D y hyl HDY.out
                have E1 := Lib.hid e1
                have E2 := Lib.hid e2
                have hwr : IntKind.i64.wrap ((leftN l0 D : Nat) - 1 : Int) = (leftN l0 (upB D y) : Nat) := by
                  have := left_le l0 D
                  have h9 := HL.out
                  rw [IntWalk.i64_in _ (by omega)]; omega
                have hBs := HBq.out.set y true
                have hBs2 : Hid (Bools (wq.setCell ⟨A, y, none⟩ (.bool true)) A n (upB D y)) := hBs
                have hset : Hid (Only [A] wq (wq.setCell ⟨A, y, none⟩ (.bool true))) := (Only.refl _ _).setCell (by simp) _
                obtain ⟨q, hq⟩ : ∃ q, leftN l0 (upB D y) = q := ⟨_, rfl⟩
                have HQ := Lib.hid hq
                rw [hq] at hwr
                clear e1 e2 e3 hrf hlu hBs hq
                go_wp2_with fail
                refine hF.mono ?_
                rintro e w5 ⟨rfl, hw5⟩
                subst hw5
                clear hF
                go_wp2
                go_meet
                exact ⟨by rw [E1.out], by rw [E2.out, HQ.out], by rw [E2.out]; exact hBs2.out, hset.out⟩
              · obtain ⟨e1, e2, e3⟩ := done_not (D := D) hyl (by rw [hrf]; cases f <;> cases d <;> simp at hr ⊢)
                have E1 := Lib.hid e1
                have E2 := Lib.hid e2
                clear e1 e2 e3 hrf
                have hfd : d = true ∨ (d = false ∧ f = false) := by cases f <;> cases d <;> simp at hr ⊢
                clear hr
                rcases hfd with rfl | ⟨rfl, rfl⟩
                all_goals
                  go_wp2_with fail
                  refine hF.mono ?_
                  rintro e w5 ⟨rfl, hw5⟩
                  subst hw5
                  clear hF
                  go_wp2
                  go_meet
                  exact ⟨by rw [E1.out], by rw [E2.out], by rw [E2.out]; exact HBq.out, Only.refl _ _⟩
            · have hx2 : x < 0 ∨ (0 ≤ x ∧ (n : Int) ≤ x) := by omega
              obtain ⟨e1, e2, e3⟩ := done_out' (p := l0) (D := D) (x := x) (by rw [HL.out]; omega)
              have hi : inR l0 x = false := by unfold inR; rw [HL.out]; simp; omega
              rw [hi]
              have E1 := Lib.hid e1
              have E2 := Lib.hid e2
              clear e1 e2 e3 hx hi
              rcases hx2 with h | ⟨h, h'⟩
              all_goals
                go_wp2
                go_meet
                exact ⟨by rw [E1.out], by rw [E2.out], by rw [E2.out]; exact HBq.out, Only.refl _ _⟩
        case rest =>
          as_aux_lemma =>
            obtain ⟨rfl, rfl, hBc, hoc⟩ := hcut
            have HOC : Hid (Only [] w wc) := HOQ.out.trans hoc (fun z hz hl => by simp at hz; subst hz; have := hwA.out; omega)
            have hlt' := HIU.out.own_lt
            have HIUc : Hid (Ints wc wo.heap.size u (natL (readyL l0 D))) := HIU.out.only hoc (fun g hg hz => by have := (hlt' g (own_of hg)).1; simp at hz; omega)
            have HJc : Hid (JoinIs wc S FP J l0 D) := HJq.out.only hoc (fun z hz hz2 => by have := (HSA.out z hz).2; simp at hz2; omega) (fun z hz hz2 => by have := (HFA.out z hz).2; simp at hz2; omega)
            have hcs := hoc.size
            have HBc := Lib.hid hBc
            have HEN := Lib.hid (play_new HOK.out HC.out x)
            have HCL := Lib.hid (play_closed HOK.out HC.out x)
            have hrd := law_ready _ l0 A n (doneD l0 D x) wc (HP.out.same HOC.out) hneed.out hBc HL.out
            obtain ⟨NL, hNL⟩ : ∃ NL, natL (readyL l0 (doneD l0 D x)) = NL := ⟨_, rfl⟩
            obtain ⟨UL, hUL⟩ : ∃ UL, natL (readyL l0 D) = UL := ⟨_, rfl⟩
            have hNl : NL.length ≤ 30 := by rw [← hNL]; have := readyL_len l0 (doneD l0 D x); have := HL.out; omega
            have hUl : UL.length ≤ 30 := by rw [← hUL]; have := readyL_len l0 D; have := HL.out; omega
            have hPl := play_new HOK.out HC.out x
            rw [hNL, hUL] at HEN
            rw [hNL] at hrd
            rw [hUL] at HIUc
            have HNL := Lib.hid hNL
            clear hlt' hBc hoc hNL hUL HIU HJq HBq hPl cxq
            go_wp2_with fail
            refine hrd.mono ?_
            rintro e wn ⟨un, rfl, hIn, hon⟩
            have HON : Hid (Only [] w wn) := HOC.out.trans hon (by simp)
            have hns := hon.size
            have HIUn := Lib.hid (HIUc.out.only hon (by simp))
            have HJn := Lib.hid (HJc.out.same hon)
            have HBn := Lib.hid (HBc.out.only hon (by simp))
            obtain ⟨na, nc, rfl, hncl⟩ := hIn.opt
            obtain ⟨z, hz⟩ : ∃ z, NL.length = z := ⟨_, rfl⟩
            have HZ := Lib.hid hz
            rw [hz] at hncl hIn hNl ⊢
            have HIn := Lib.hid hIn
            have HNCL := Lib.hid hncl
            clear hrd hIn hon HIUc HJc HBc hncl hz
            go_wp2_with fail
            go_loopw [14, 18, 19] (fun vo vj _ wr2 => ∃ j : Nat, j ≤ z ∧ vj = .int .i64 j ∧ Ints wr2 wn.heap.size vo ((NL.take j).filter (fun k => !decide (k ∈ UL))) ∧ Only [] wn wr2) (fun _ vj _ _ => z - (intOf vj).toNat)
            case atStart => exact ⟨0, Nat.zero_le _, rfl, by simpa using Ints.nil _ _, Only.refl _ _⟩
            case round =>
              obtain ⟨wj, rfl⟩ : ∃ wj : World, wj = wr := ⟨_, rfl⟩
              obtain ⟨j, hj, rfl, hIo, hoj⟩ := hrel
              obtain ⟨va, vc, rfl, _⟩ := hIo.opt
              obtain ⟨q, hq⟩ : ∃ q, ((NL.take j).filter (fun k => !decide (k ∈ UL))).length = q := ⟨_, rfl⟩
              have hq30 : q ≤ 30 := by
                rw [← hq]
                have h1 := List.length_filter_le (fun k => !decide (k ∈ UL)) (NL.take j)
                have h2 := List.length_take_le' j NL
                have h3 := HZ.out
                omega
              have HQ := Lib.hid hq
              have hsj := hoj.size
              rw [hq] at hIo ⊢
              clear hq
              by_cases hjz : j < z
              · obtain ⟨ng, rfl, cy⟩ := HNCL.out j hjz
                obtain ⟨y, hy⟩ : ∃ y, nth NL j = y := ⟨_, rfl⟩
                have cy2 := (hoj.cell (p := ⟨ng, j, none⟩) (cell_lt cy) (by simp)).trans cy
                rw [hy] at cy2
                have hst := filter_take_succ NL (fun k => !decide (k ∈ UL)) j (by rw [HZ.out]; exact hjz)
                rw [hy] at hst
                obtain ⟨r, hr⟩ : ∃ r, decide (y ∈ UL) = r := ⟨_, rfl⟩
                have hin := ref_in u UL y wj (HIUn.out.only hoj (by simp)).reads (by omega) r hr
                simp only [hr] at hst
                have HST := Lib.hid hst
                clear cy hy hst hr
                cases r
                · go_wp2_with fail
                  refine hin.mono ?_
                  rintro e w5 ⟨rfl, rfl⟩
                  clear hin
                  go_wp2_with (at_builtin; refine wpList_push rfl (.tmp 119) (.tmp 124) rfl wj wn.heap.size _ _ wj.heap.size y q hIo HQ.out (by omega) hsj rfl rfl ((Only.refl [] wj).alloc _) (World.cell?_alloc_at _ _ _ _ rfl) ?_; intro g2 cap3 w6 hI6 hO6 hK6)
                  have hI7 : Hid (Ints w6 wn.heap.size (.slice (some ⟨g2, 0, none⟩) (q + 1) cap3) ((NL.take (j + 1)).filter (fun k => !decide (k ∈ UL)))) := by show Ints _ _ _ _; rw [HST.out]; exact hI6
                  have ho7 := Lib.hid (hoj.pushed hIo (Nat.le_refl _) hO6)
                  clear hI6 hO6 hIo hoj
                  go_roundw
                  case rel => exact ⟨j + 1, by omega, by go_num, hI7.out, ho7.out⟩
                  case measure => (simp [intOf]; try omega)
                · have hI7 : Hid (Ints wj wn.heap.size (.slice va q vc) ((NL.take (j + 1)).filter (fun k => !decide (k ∈ UL)))) := by show Ints _ _ _ _; rw [HST.out]; exact hIo
                  clear hIo
                  go_wp2_with fail
                  refine hin.mono ?_
                  rintro e w5 ⟨rfl, rfl⟩
                  clear hin
                  go_wp2
                  go_roundw
                  case rel => exact ⟨j + 1, by omega, by go_num, hI7.out, hoj⟩
                  case measure => (simp [intOf]; try omega)
              · obtain rfl : j = z := by omega
                have hIo2 : Hid (Ints wj wn.heap.size (.slice va q vc) (doneL l0 D x)) := by
                  show Ints _ _ _ _
                  rw [← HEN.out]
                  rw [List.take_of_length_le (Nat.le_of_eq HZ.out)] at hIo
                  exact hIo
                have HJj := Lib.hid (HJn.out.same hoj)
                have HBj := Lib.hid (HBn.out.only hoj (by simp))
                have HNj := Lib.hid (HIn.out.only hoj (by simp))
                have HOj : Hid (Only [] w wj) := HON.out.trans hoj (by simp)
                have cxj := HX.out wj HOj.out
                clear hIo hoj hjz hj HJn HBn HIn HIUn
                have hPl := join_play S FP J l0 D x wj HJj.out
                have hSE := same_errV (doneE l0 D x)
                obtain ⟨ev, hev⟩ : ∃ ev, errV (doneE l0 D x) = ev := ⟨_, rfl⟩
                rw [hev] at hPl hSE
                have HSE := Lib.hid hSE
                have hql : Hid ((doneL l0 D x).length = q) := by
                  obtain ⟨_, _, e, _⟩ := hIo2.out.opt
                  injection e with _ e2 _
                  exact e2.symm
                clear hev hSE
                go_wp2_with fail
                refine hPl.mono ?_
                rintro e w5 ⟨v5, rfl, hI5, hJ5, ho5⟩
                have HO5 : Hid (Only [] w w5) := HOj.out.trans ho5 (fun y hy hl => by have := (HSA.out y hy).1; omega)
                have HW5 : Hid (Ints w5 wn.heap.size (.slice va q vc) (doneL l0 D x)) := hIo2.out.only ho5 (fun g hg hy => by have := (hIo2.out.own_lt g (own_of hg)).1; have := (HSA.out g hy).2; omega)
                have HN5 : Hid (Ints w5 wc.heap.size (.slice na j nc) NL) := HNj.out.only ho5 (fun g hg hy => by have := (HNj.out.own_lt g (own_of hg)).1; have := (HSA.out g hy).2; omega)
                have HB5 : Hid (Bools w5 A n (doneD l0 D x)) := HBj.out.only ho5 (fun hy => by have := (HSA.out A hy).2; omega)
                have HJ5 := Lib.hid hJ5
                have hgl := HG.out.only HO5.out
                obtain ⟨va5, vc5, rfl, _⟩ := hI5.opt
                have HI5 := Lib.hid hI5
                have h5s := ho5.size
                rw [hql.out] at HI5 ⊢
                clear hPl hI5 hJ5 ho5 HJj HBj HNj hIo2 cxj
                go_wp2_with fail
                refine (HSE.out w5 hgl).mono ?_
                rintro e w6 ⟨rfl, ho6⟩
                have hS6 := same_ints _ _ _ w6 (HI5.out.only ho6 (by simp)).reads (HW5.out.only ho6 (by simp)).reads (by rw [hql.out]; omega)
                clear hgl HSE
                go_wp2_with fail
                refine hS6.mono ?_
                rintro e w7 ⟨rfl, d7, rfl⟩
                have ho7 := ho6.drewN d7
                have HJ7 := Lib.hid (HJ5.out.same ho7)
                have HN7 := Lib.hid (HN5.out.only ho7 (by simp))
                have HB7 := Lib.hid (HB5.out.only ho7 (by simp))
                have HO7 : Hid (Only [] w (w6.drewN d7)) := HO5.out.trans ho7 (by simp)
                have h7s := ho7.size
                clear hS6 ho6 ho7 HJ5 HN5 HB5 HO5 HI5 HW5
                generalize w6.drewN d7 = w7 at *
                have hRd := Join.ready S FP J l0 (doneD l0 D x) w7 HJ7.out
                rw [HNL.out] at hRd
                go_wp2_with fail
                refine hRd.mono ?_
                rintro e w8 ⟨v8, rfl, hI8, ho8⟩
                obtain ⟨a8, c8, rfl, _⟩ := hI8.opt
                have hS8 := same_ints _ _ _ w8 hI8.reads (HN7.out.only ho8 (by simp)).reads (by rw [HZ.out]; omega)
                rw [HZ.out] at hS8 ⊢
                clear hRd hI8
                go_wp2_with fail
                refine hS8.mono ?_
                rintro e w9 ⟨rfl, d9, rfl⟩
                have ho9 := ho8.drewN d9
                have HJ9 := Lib.hid (HJ7.out.same ho9)
                have HB9 := Lib.hid (HB7.out.only ho9 (by simp))
                have HO9 : Hid (Only [] w (w8.drewN d9)) := HO7.out.trans ho9 (by simp)
                have h9s := ho9.size
                clear hS8 ho8 ho9 HJ7 HN7 HB7 HO7
                generalize w8.drewN d9 = w9 at *
                go_upto_region 33 with (fail)
                go_cut [154] (fun vc wx => vc = .bool (!inR l0 a2) ∧ w9 = wx)
                case first =>
                  as_aux_lemma =>
                    by_cases hx : 0 ≤ a2 ∧ a2 < (n : Int)
                    · obtain ⟨hx0, hx1⟩ := hx
                      have hi : Hid (inR l0 a2 = true) := by show _ = _; unfold inR; rw [HL.out]; simp; omega
                      go_wp2
                      go_meet
                      exact ⟨by rw [hi.out]; exact congrArg Value.bool (by simp; omega), rfl⟩
                    · have hi : Hid (inR l0 a2 = false) := by show _ = _; unfold inR; rw [HL.out]; simp; omega
                      have hx2 : a2 < 0 ∨ (0 ≤ a2 ∧ (n : Int) ≤ a2) := by omega
                      clear hx
                      rcases hx2 with h | ⟨h, h'⟩
                      all_goals
                        go_wp2
                        go_meet
                        exact ⟨by rw [hi.out]; exact congrArg Value.bool (by simp; try omega), rfl⟩
                case rest =>
                obtain ⟨rfl, rfl⟩ := hcut
                go_upto_if 154 with (fail)
                go_cut [7, 23, 24] (fun ve vs vf wx => ve = .int .i64 (stE l0 a2) ∧ vs = .int .i64 (stV l0 (doneD l0 D x) a2) ∧ w9 = wx)
                case first =>
                  as_aux_lemma =>
                    by_cases hx : 0 ≤ a2 ∧ a2 < (n : Int)
                    · obtain ⟨hx0, hx1⟩ := hx
                      obtain ⟨y, rfl⟩ := Int.eq_ofNat_of_zero_le hx0
                      have hyn : y < n := by omega
                      have hyl : y < l0.length := by rw [HL.out]; exact hyn
                      have hi : inR l0 (y : Int) = true := by unfold inR; rw [HL.out]; simp; omega
                      rw [hi]
                      have hF := ref_Free _ l0 y A n (doneD l0 D x) w9 (HP.out.same HO9.out) hneed.out HB9.out hyl HL.out
                      have cb := (HB9.out y hyn).1
                      have E1 := Lib.hid (st_in (D := doneD l0 D x) hyl).1
                      have hE2 := (st_in (D := doneD l0 D x) hyl).2
                      obtain ⟨f, hf⟩ : ∃ f, freeB l0 (doneD l0 D x) y = f := ⟨_, rfl⟩
                      obtain ⟨d, hd⟩ : ∃ d, doneD l0 D x y = d := ⟨_, rfl⟩
                      rw [hf] at hF hE2
                      rw [hd] at hE2 cb
                      have E2 := Lib.hid hE2
                      clear hf hx0 hx1 hd hE2 hi
                      cases d <;> cases f
                      all_goals
                        go_wp2_with fail
                        refine hF.mono ?_
                        rintro e w5 ⟨rfl, hw5⟩
                        subst hw5
                        clear hF
                        go_wp2
                        go_meet
                        exact ⟨by rw [E1.out], by rw [E2.out]; rfl, rfl⟩
                    · have hx2 : a2 < 0 ∨ (0 ≤ a2 ∧ (n : Int) ≤ a2) := by omega
                      obtain ⟨e1, e2⟩ := st_out (p := l0) (D := doneD l0 D x) (i := a2) (by rw [HL.out]; omega)
                      have hi : inR l0 a2 = false := by unfold inR; rw [HL.out]; simp; omega
                      rw [hi]
                      have E1 := Lib.hid e1
                      have E2 := Lib.hid e2
                      clear e1 e2 hx hi
                      rcases hx2 with h | ⟨h, h'⟩
                      all_goals
                        go_wp2
                        go_meet
                        exact ⟨by rw [E1.out], by rw [E2.out], rfl⟩
                case rest =>
                  as_aux_lemma =>
                    obtain ⟨rfl, rfl, rfl⟩ := hcut
                    have hSt := join_state S FP J l0 (doneD l0 D x) a2 _ HJ9.out
                    have hSE := same_errV (stE l0 a2)
                    obtain ⟨ev, hev⟩ : ∃ ev, errV (stE l0 a2) = ev := ⟨_, rfl⟩
                    rw [hev] at hSt hSE
                    have HSE := Lib.hid hSE
                    clear hev hSE
                    go_wp2_with fail
                    refine hSt.mono ?_
                    rintro e w10 ⟨rfl, rfl⟩
                    have hgl := HG.out.only HO9.out
                    clear hSt
                    go_wp2_with fail
                    refine (HSE.out _ hgl).mono ?_
                    rintro e w11 ⟨rfl, ho11⟩
                    have HJ11 := Lib.hid (HJ9.out.same ho11)
                    have HB11 := Lib.hid (HB9.out.only ho11 (by simp))
                    have HO11 : Hid (Only [] w w11) := HO9.out.trans ho11 (by simp)
                    have h11s := ho11.size
                    have hLeft := Join.left S FP J l0 (doneD l0 D x) w11 HJ11.out
                    clear ho11 HJ9 HB9 HO9 hgl HSE
                    go_wp2_with fail
                    refine hLeft.mono ?_
                    rintro e w12 ⟨rfl, rfl⟩
                    clear hLeft
                    go_wp2
                    go_roundw
                    case rel => exact ⟨k + 1, by omega, by omega, by go_num, _, rfl, HJ11.out, HB11.out, HCL.out, by omega, HO11.out⟩
                    case measure => (simp [intOf]; try omega)
      · have hend : m ≤ k ∨ (k < m ∧ 60 ≤ k) := by omega
        clear hlt
        rcases hend with h | ⟨h, h'⟩
        all_goals
          go_wp2
          go_ret
          exact ⟨by rfl, ho.below (Nat.le_refl _) (by simp)⟩
  · have hN := Lib.hid (fun w1 (ho : Only [] w w1) => Join.new_no v0 l0 w1 (hp.same ho) h0)
    obtain ⟨a, cap, rfl, _⟩ := hp.task
    generalize planFault l0 = pe at *
    clear hp
    go_enter Tryd.func7, Tryd.ntmps7
    go_wp2_with fail
    refine hR.mono ?_
    rintro e w1 ⟨rfl, ho1⟩
    have hN1 := hN.out w1 ho1
    clear hR hN
    go_wp2_with fail
    refine hN1.mono ?_
    rintro e w2 ⟨rfl, ho2⟩
    have ho2 := ho1.trans ho2 (by simp)
    have hgl := HG.out.only ho2
    clear hN1 ho1
    go_wp2_with fail
    refine (same_err pe pe _ hgl true (by simp)).mono ?_
    rintro e w3 ⟨rfl, ho3⟩
    go_wp2
    go_ret
    exact ⟨by rfl, (ho2.trans ho3 (by simp)).below (Nat.le_refl _) (by simp)⟩

end Go.Proofs.YtadjcooemeaaeaaDoor.joinPlays
