/-
  The statement WeaveCounts: as the text says, so the plan is. No condition but the listed variables'.
-/
import Derived.Test.YtloojhnhialenaaDoorFrame
import Derived.Test.YtloojhnhialenaaDoorLaid
import Derived.Test.YtloojhnhialenaaDoorTold
import Derived.Test.YtloojhnhialenaaDoorErrV
import Derived.Test.YtloojhnhialenaaDoorWeaveZ
import Derived.Test.YtloojhnhialenaaDoorDepth
namespace Go.Proofs.YtloojhnhialenaaDoor.weaveCounts
open Go.ChangeShapes Go.WideShapes Go.ChangeAt Go.RowKit
open Go.ChangeMaps (open_string shut_string)
set_option linter.unusedVariables false


theorem ba_cat (a b : ByteArray) : (a ++ b).data.toList = a.data.toList ++ b.data.toList := by
  rw [ByteArray.data_append]; simp
theorem small_text {T : ByteArray} {X : Wv} (hp : pText T = some (X, [])) (h20 : ∀ n ∈ worksW X, n ≤ 20) : weaveF T = 4 ∨ (T.size ≤ 200 ∧ cntW X ≤ 30) := by
  unfold weaveF
  by_cases h : 200 < T.size
  · rw [if_pos h]; exact .inl rfl
  · rw [if_neg h, hp]
    simp only [ne_eq, not_true_eq_false, if_false]
    rw [if_neg ((works_small X).2 h20)]
    by_cases h30 : 30 < cntW X
    · rw [if_pos h30]; exact .inl rfl
    · exact .inr ⟨by omega, by omega⟩
theorem text_seq (a0 a1 : ByteArray) (A B : Wv) (hA : pText a0 = some (A, [])) (hB : pText a1 = some (B, [])) : pText ((((⟨#[40]⟩ : ByteArray) ++ a0) ++ (⟨#[41, 59, 40]⟩ : ByteArray)) ++ a1 ++ (⟨#[41]⟩ : ByteArray)) = some (.seq A B, []) := by
  obtain ⟨f, hf⟩ := pText_list hA
  obtain ⟨g, hg⟩ := pText_list hB
  obtain ⟨F, hF⟩ := two_signs hf hg
  refine pText_of (f := F) ?_
  rw [ba_cat, ba_cat, ba_cat, ba_cat]
  have e : ((⟨#[40]⟩ : ByteArray).data.toList ++ a0.data.toList ++ (⟨#[41, 59, 40]⟩ : ByteArray).data.toList ++ a1.data.toList ++ (⟨#[41]⟩ : ByteArray).data.toList) = 40 :: (a0.data.toList ++ 41 :: 59 :: 40 :: (a1.data.toList ++ [41])) := by simp
  rw [e]
  exact hF
theorem text_par (a0 a1 : ByteArray) (A B : Wv) (hA : pText a0 = some (A, [])) (hB : pText a1 = some (B, [])) : ∃ X, pText ((a0 ++ (⟨#[124]⟩ : ByteArray)) ++ a1) = some (X, []) ∧ Beside A B X := by
  obtain ⟨f, hf⟩ := pText_list hA
  obtain ⟨g, hg⟩ := pText_list hB
  obtain ⟨F, X, hF, hX⟩ := two_beside hf hg
  refine ⟨X, pText_of (f := F) ?_, hX⟩
  rw [ba_cat, ba_cat]
  have e : (a0.data.toList ++ (⟨#[124]⟩ : ByteArray).data.toList ++ a1.data.toList) = a0.data.toList ++ 124 :: a1.data.toList := by simp
  rw [e]
  exact hF
theorem fact_text : pText ⟨#[50, 59, 40, 51, 124, 52, 41, 59, 49]⟩ = some (.seq (.seq (.num 2) (.par (.num 3) (.num 4))) (.num 1), []) := by kernel_rfl

set_option maxRecDepth 100000 in
set_option maxHeartbeats 4000000 in
theorem walk (a0 : ByteArray) (a1 : ByteArray) (w : World) (hglob : Glob w) (hrange : VarErr "strconv.ErrRange" w) (hsyn : VarErr "strconv.ErrSyntax" w) (w0 : a0.size ≤ maxLen) (w1 : a1.size ≤ maxLen) :
    Calls Tryd.prog 7 #[.string a0, .string a1] w fun e w' => e = .returned (.bool true) ∧ Below w.heap.size w w' := by
  have HG := Lib.hid hglob
  have HSY := Lib.hid hsyn
  have HRA := Lib.hid hrange
  have hmax0 : a0.size ≤ 9223372036854775807 := by unfold maxLen at w0; omega
  have hmax1 : a1.size ≤ 9223372036854775807 := by unfold maxLen at w1; omega
  have hp1 := Parse_ok ⟨#[50, 59, 40, 51, 124, 52, 41, 59, 49]⟩ w hsyn hrange _ (by decide) fact_text ((works_small _).2 (by decide)) (by decide)
  have hp1 : Calls Tryd.prog 16 #[.string ⟨#[50, 59, 40, 51, 124, 52, 41, 59, 49]⟩] w fun e w' => ∃ x c, e = .returned (.tuple #[.slice x 4 c, .int .i64 10, .int .i64 7, .nilIface]) ∧ InPlan w' (.slice x 4 c) (build (.seq (.seq (.num 2) (.par (.num 3) (.num 4))) (.num 1)) []) ∧ Only [] w w' := hp1
  clear w0 w1 hglob hsyn hrange
  go_enter Tryd.func7, Tryd.ntmps7
  go_wp2_with fail
  refine hp1.mono ?_
  rintro e wa ⟨x1, k1, rfl, hP1, ho1⟩
  obtain ⟨pb, po, rfl⟩ := hP1.any 3 (by decide)
  obtain ⟨na, nc, _, cn, _⟩ := hP1.at 3 (by decide)
  have cn : wa.cell? ⟨pb, po + 3 * 2 + 1, none⟩ = some (.slice na 2 nc) := cn
  have cn' : wa.cell? ⟨pb, po + 7, none⟩ = some (.slice na 2 nc) := cn
  have cn'' : wa.cell? ⟨pb, po + 6 + 1, none⟩ = some (.slice na 2 nc) := cn
  have HOa := Lib.hid ho1
  clear hp1 ho1 hP1
  go_wp2_with fail
  by_cases hf : weaveF a0 = 0
  · obtain ⟨h200, A, hpt, h20, h30⟩ := weaveF_ok hf
    have hp2 := Parse_ok a0 wa (HSY.out.only HOa.out) (HRA.out.only HOa.out) A h200 hpt h20 h30
    have hpl := weave_plan A (NumsW.mono (fun n (h : 1 ≤ n ∧ n ≤ 21) => h.1) (text_ok hpt)) h30 (fun j hj => by
      by_cases h : 20 < wkOf (build A []) j
      · exact absurd ⟨j, hj, h⟩ h20
      · omega)
    have hsw := small_work A (text_ok hpt)
    have hcp := cntW_pos A
    have HPT := Lib.hid hpt
    have H20 := Lib.hid ((works_small A).1 h20)
    obtain ⟨WA, hWA⟩ : ∃ WA, workW A = WA := ⟨_, rfl⟩
    obtain ⟨SA, hSA⟩ : ∃ SA, spanW A = SA := ⟨_, rfl⟩
    obtain ⟨CA, hCA⟩ : ∃ CA, cntW A = CA := ⟨_, rfl⟩
    rw [hWA, hSA, hCA] at hp2 hsw
    rw [hWA, hSA] at hpl
    rw [hCA] at h30 hcp
    have HWA := Lib.hid (And.intro hWA (And.intro hSA hCA))
    have HPL := Lib.hid hpl
    have hbA : 0 ≤ SA ∧ SA ≤ WA ∧ WA ≤ 630 := by omega
    obtain ⟨u1, u2, u3⟩ := hbA
    clear hf hpt h20 hWA hSA hCA hpl hsw
    refine hp2.mono ?_
    rintro e wb ⟨x2, k2, rfl, hP2, ho2⟩
    have HOb := Lib.hid (HOa.out.trans ho2 (by simp))
    have hdw := depth_Work _ _ wb hP2 HPL.out.1
    rw [HPL.out.2.2] at hdw
    have HP2 := Lib.hid hP2
    clear hp2 ho2 hP2 cn cn' cn''
    go_wp2_with fail
    refine hdw.mono ?_
    rintro e wc ⟨rfl, ho3⟩
    have HOc := Lib.hid (HOb.out.trans ho3 (by simp))
    have hds := depth_Span _ _ wc (HP2.out.same ho3) HPL.out.1
    rw [HPL.out.2.1] at hds
    clear hdw ho3 HP2
    go_wp2_with fail
    refine hds.mono ?_
    rintro e wd ⟨rfl, ho4⟩
    have HOd := Lib.hid (HOc.out.trans ho4 (by simp))
    clear hds ho4
    by_cases hg : weaveF a1 = 0
    · obtain ⟨i200, B, hqt, i20, i30⟩ := weaveF_ok hg
      have hm := Measure_ok a1 wd (HSY.out.only HOd.out) (HRA.out.only HOd.out) B i200 hqt i20 i30
      have hsw := small_work B (text_ok hqt)
      have HQT := Lib.hid hqt
      have I20 := Lib.hid ((works_small B).1 i20)
      obtain ⟨WB, hWB⟩ : ∃ WB, workW B = WB := ⟨_, rfl⟩
      obtain ⟨SB, hSB⟩ : ∃ SB, spanW B = SB := ⟨_, rfl⟩
      rw [hWB, hSB] at hm hsw
      have HWB := Lib.hid (And.intro hWB hSB)
      have hbB : 0 ≤ SB ∧ SB ≤ WB ∧ WB ≤ 630 := by omega
      obtain ⟨v1, v2, v3⟩ := hbB
      clear hg hqt i20 hWB hSB hsw i30
      go_wp2_with fail
      refine hm.mono ?_
      rintro e we ⟨rfl, ho5⟩
      have HO0 := Lib.hid (HOd.out.trans ho5 (by simp))
      clear hm ho5
      obtain ⟨P1, hP1, y1⟩ : ∃ P1 : ByteArray, (⟨#[40]⟩ : ByteArray) ++ a0 = P1 ∧ P1.size ≤ 1000 := ⟨_, rfl, by rw [ByteArray.size_append]; show 1 + a0.size ≤ 1000; omega⟩
      obtain ⟨P2, hP2, y2⟩ : ∃ P2 : ByteArray, P1 ++ (⟨#[41, 59, 40]⟩ : ByteArray) = P2 ∧ P2.size ≤ 2000 := ⟨_, rfl, by rw [ByteArray.size_append]; show P1.size + 3 ≤ 2000; omega⟩
      obtain ⟨P3, hP3, y3⟩ : ∃ P3 : ByteArray, P2 ++ a1 = P3 ∧ P3.size ≤ 3000 := ⟨_, rfl, by rw [ByteArray.size_append]; omega⟩
      obtain ⟨T1, hT1e, y4⟩ : ∃ T1 : ByteArray, P3 ++ (⟨#[41]⟩ : ByteArray) = T1 ∧ T1.size ≤ 4000 := ⟨_, rfl, by rw [ByteArray.size_append]; show P3.size + 1 ≤ 4000; omega⟩
      obtain ⟨P5, hP5, y5⟩ : ∃ P5 : ByteArray, a0 ++ (⟨#[124]⟩ : ByteArray) = P5 ∧ P5.size ≤ 1000 := ⟨_, rfl, by rw [ByteArray.size_append]; show a0.size + 1 ≤ 1000; omega⟩
      obtain ⟨T2, hT2e, y6⟩ : ∃ T2 : ByteArray, P5 ++ a1 = T2 ∧ T2.size ≤ 2000 := ⟨_, rfl, by rw [ByteArray.size_append]; omega⟩
      have ht1 : pText T1 = some (.seq A B, []) := by rw [← hT1e, ← hP3, ← hP2, ← hP1]; exact text_seq a0 a1 A B HPT.out HQT.out
      obtain ⟨X, ht2, hX⟩ := text_par a0 a1 A B HPT.out HQT.out
      rw [hP5, hT2e] at ht2
      have hw1 : ∀ n ∈ worksW (.seq A B), n ≤ 20 := fun n hn => by
        rcases List.mem_append.1 hn with h | h
        · exact H20.out n h
        · exact I20.out n h
      have hw2 : ∀ n ∈ worksW X, n ≤ 20 := fun n hn => by
        rw [hX.works] at hn
        rcases List.mem_append.1 hn with h | h
        · exact H20.out n h
        · exact I20.out n h
      have hT1 := small_text ht1 hw1
      have hT2 := small_text ht2 hw2
      obtain ⟨N, hN, n1, n2, n3⟩ : ∃ N : Int, max SA SB = N ∧ SA ≤ N ∧ SB ≤ N ∧ (N = SA ∨ N = SB) := ⟨_, rfl, by omega, by omega, by omega⟩
      have hwk2 : workW X = WA + WB := by rw [hX.work, HWA.out.1, HWB.out.1]
      have hsp2 : spanW X = N := by rw [hX.span, HWA.out.2.1, HWB.out.2, hN]
      have hwk1 : workW (.seq A B) = WA + WB := by show workW A + workW B = _; rw [HWA.out.1, HWB.out.1]
      have hsp1 : spanW (.seq A B) = SA + SB := by show spanW A + spanW B = _; rw [HWA.out.2.1, HWB.out.2]
      have HX := Lib.hid (And.intro ht2 (And.intro hw2 (And.intro hwk2 hsp2)))
      have HY := Lib.hid (And.intro ht1 (And.intro hw1 (And.intro hwk1 hsp1)))
      have q1 : ¬ 9223372036854775807 < (⟨#[40]⟩ : ByteArray).size + a0.size := by show ¬ 9223372036854775807 < 1 + a0.size; omega
      have q1' : ¬ 9223372036854775806 < a0.size := by omega
      have q2 : ¬ 9223372036854775807 < P1.size + (⟨#[41, 59, 40]⟩ : ByteArray).size := by show ¬ 9223372036854775807 < P1.size + 3; omega
      have q2' : ¬ 9223372036854775804 < P1.size := by omega
      have q3 : ¬ 9223372036854775807 < P2.size + a1.size := by omega
      have q4' : ¬ 9223372036854775806 < P3.size := by omega
      have q5 : ¬ 9223372036854775807 < P5.size + a1.size := by omega
      clear ht1 ht2 hX hw1 hw2 hN hwk1 hwk2 hsp1 hsp2
      rcases hT1 with h4 | ⟨z1, m1⟩
      · have hm1 := Measure_no T1 we (by omega) (HSY.out.only HO0.out) (HRA.out.only HO0.out) (by rw [h4]; decide)
        rw [h4] at hm1
        clear h4
        go_wp2_with fail
        refine hm1.mono ?_
        rintro e wx1 ⟨rfl, hx1⟩
        have HO1 := Lib.hid (HO0.out.trans hx1 (by simp))
        clear hm1 hx1
        rcases hT2 with h4 | ⟨z2, n2⟩
        · have hm2 := Measure_no T2 wx1 (by omega) (HSY.out.only HO1.out) (HRA.out.only HO1.out) (by rw [h4]; decide)
          rw [h4] at hm2
          clear h4
          go_wp2_with fail
          refine hm2.mono ?_
          rintro e wx2 ⟨rfl, hx2⟩
          have HO2 := Lib.hid (HO1.out.trans hx2 (by simp))
          clear hm2 hx2
          go_wp2_with fail
          refine (same_err 4 4 _ (HG.out.only HO2.out) true rfl).mono ?_
          rintro e wx3 ⟨rfl, hx3⟩
          have HO3 := Lib.hid (HO2.out.trans hx3 (by simp))
          clear hx3
          go_wp2_with fail
          refine (same_err 4 4 _ (HG.out.only HO3.out) true rfl).mono ?_
          rintro e wx4 ⟨rfl, hx4⟩
          have HO4 := Lib.hid (HO3.out.trans hx4 (by simp))
          clear hx4
          go_wp2_with fail
          go_ret
          exact ⟨by simp <;> omega, HO4.out.below (Nat.le_refl _) (by simp)⟩
        · have hm2 := Measure_ok T2 wx1 (HSY.out.only HO1.out) (HRA.out.only HO1.out) X z2 HX.out.1 ((works_small X).2 HX.out.2.1) n2
          rw [HX.out.2.2.1, HX.out.2.2.2] at hm2
          clear z2 n2
          go_wp2_with fail
          refine hm2.mono ?_
          rintro e wx2 ⟨rfl, hx2⟩
          have HO2 := Lib.hid (HO1.out.trans hx2 (by simp))
          clear hm2 hx2
          by_cases hgt : SA < N
          · have hle : ¬ SB < N := by omega
            go_wp2_with fail
            refine (same_err 4 4 _ (HG.out.only HO2.out) true rfl).mono ?_
            rintro e wx3 ⟨rfl, hx3⟩
            have HO3 := Lib.hid (HO2.out.trans hx3 (by simp))
            clear hx3
            go_wp2_with fail
            go_ret
            exact ⟨by simp <;> omega, HO3.out.below (Nat.le_refl _) (by simp)⟩
          · have hle : N ≤ SA := by omega
            go_wp2_with fail
            refine (same_err 4 4 _ (HG.out.only HO2.out) true rfl).mono ?_
            rintro e wx3 ⟨rfl, hx3⟩
            have HO3 := Lib.hid (HO2.out.trans hx3 (by simp))
            clear hx3
            go_wp2_with fail
            go_ret
            exact ⟨by simp <;> omega, HO3.out.below (Nat.le_refl _) (by simp)⟩
      · have hm1 := Measure_ok T1 we (HSY.out.only HO0.out) (HRA.out.only HO0.out) (.seq A B) z1 HY.out.1 ((works_small _).2 HY.out.2.1) m1
        rw [HY.out.2.2.1, HY.out.2.2.2] at hm1
        clear z1 m1
        go_wp2_with fail
        refine hm1.mono ?_
        rintro e wx1 ⟨rfl, hx1⟩
        have HO1 := Lib.hid (HO0.out.trans hx1 (by simp))
        clear hm1 hx1
        rcases hT2 with h4 | ⟨z2, n2⟩
        · have hm2 := Measure_no T2 wx1 (by omega) (HSY.out.only HO1.out) (HRA.out.only HO1.out) (by rw [h4]; decide)
          rw [h4] at hm2
          clear h4
          go_wp2_with fail
          refine hm2.mono ?_
          rintro e wx2 ⟨rfl, hx2⟩
          have HO2 := Lib.hid (HO1.out.trans hx2 (by simp))
          clear hm2 hx2
          go_wp2_with fail
          refine (same_err 4 4 _ (HG.out.only HO2.out) true rfl).mono ?_
          rintro e wx3 ⟨rfl, hx3⟩
          have HO3 := Lib.hid (HO2.out.trans hx3 (by simp))
          clear hx3
          go_wp2_with fail
          go_ret
          exact ⟨by simp <;> omega, HO3.out.below (Nat.le_refl _) (by simp)⟩
        · have hm2 := Measure_ok T2 wx1 (HSY.out.only HO1.out) (HRA.out.only HO1.out) X z2 HX.out.1 ((works_small X).2 HX.out.2.1) n2
          rw [HX.out.2.2.1, HX.out.2.2.2] at hm2
          clear z2 n2
          go_wp2_with fail
          refine hm2.mono ?_
          rintro e wx2 ⟨rfl, hx2⟩
          have HO2 := Lib.hid (HO1.out.trans hx2 (by simp))
          clear hm2 hx2
          by_cases hgt : SA < N
          · have hle : ¬ SB < N := by omega
            go_wp2_with fail
            go_ret
            exact ⟨by simp <;> omega, HO2.out.below (Nat.le_refl _) (by simp)⟩
          · have hle : N ≤ SA := by omega
            go_wp2_with fail
            go_ret
            exact ⟨by simp <;> omega, HO2.out.below (Nat.le_refl _) (by simp)⟩
    · have hm := Measure_no a1 wd hmax1 (HSY.out.only HOd.out) (HRA.out.only HOd.out) hg
      generalize weaveF a1 = f at *
      go_wp2_with fail
      refine hm.mono ?_
      rintro e we ⟨rfl, ho5⟩
      have HOe := Lib.hid (HOd.out.trans ho5 (by simp))
      clear hm ho5
      go_wp2
      go_ret
      exact ⟨rfl, HOe.out.below (Nat.le_refl _) (by simp)⟩
  · have hp2 := Parse_no a0 wa hmax0 (HSY.out.only HOa.out) (HRA.out.only HOa.out) hf
    generalize weaveF a0 = f at *
    refine hp2.mono ?_
    rintro e wb ⟨rfl, ho2⟩
    have HOb := Lib.hid (HOa.out.trans ho2 (by simp))
    clear hp2 ho2
    go_wp2
    go_ret
    exact ⟨rfl, HOb.out.below (Nat.le_refl _) (by simp)⟩

end Go.Proofs.YtloojhnhialenaaDoor.weaveCounts
