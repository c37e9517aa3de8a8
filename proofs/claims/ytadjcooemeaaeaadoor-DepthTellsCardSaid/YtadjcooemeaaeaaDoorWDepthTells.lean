/-
  The statement DepthTells: of any plan its work, how long it is at least, ranks and tails, a longest way, and who hangs on whom. No condition but the listed variable's.
-/
import Derived.Test.YtadjcooemeaaeaaDoorP1DepthTells
import Derived.Test.YtadjcooemeaaeaaDoorP3DepthTells
import Derived.Test.YtadjcooemeaaeaaDoorP24DepthTells
import Derived.Test.YtadjcooemeaaeaaDoorP26DepthTells
import Derived.Test.YtadjcooemeaaeaaDoorP29DepthTells
import Derived.Test.YtadjcooemeaaeaaDoorP28DepthTells
import Derived.Test.YtadjcooemeaaeaaDoorP32DepthTells
import Derived.Test.YtadjcooemeaaeaaDoorP33DepthTells
import Derived.Test.YtadjcooemeaaeaaDoorP34DepthTells
namespace Go.Proofs.YtadjcooemeaaeaaDoor.depthTells
open Go.ChangeShapes Go.WideShapes Go.ChangeAt Go.RowKit
open Go.ChangeMaps (open_string shut_string)
set_option linter.unusedVariables false


theorem rmv {w w' : World} {v : Value} {l : List Int} (h : Reads w v l) (ho : Only [] w w') : Reads w' v l := h.only' ho (by simp)

theorem reaches_no (v : Value) (p : PlanL) (i k : Int) (w : World) (h : InPlan w v p) (he : planFault p ≠ 0) :
    Calls Tryd.prog 68 #[v, .int .i64 i, .int .i64 k] w fun e w' => e = .returned (.tuple #[.bool false, .iface 115 (.int .i64 (planFault p))]) ∧ Only [] w w' := by
  have hr := plan_Right v p w h
  rw [errV_ne he] at hr
  generalize planFault p = f at *
  clear h he
  go_enter Tryd.func68, Tryd.ntmps68
  go_wp2_with fail
  refine hr.mono ?_
  rintro e w1 ⟨rfl, ho⟩
  clear hr
  go_wp2
  go_ret2
  exact ⟨rfl, ho⟩

theorem reaches_out (v : Value) (p : PlanL) (i k : Int) (w : World) (h : InPlan w v p) (he : planFault p = 0) (hn : p.length ≤ 30) (ho : i < 0 ∨ (0 ≤ i ∧ (p.length : Int) ≤ i) ∨ (0 ≤ i ∧ i < p.length ∧ k < 0) ∨ (0 ≤ i ∧ i < p.length ∧ 0 ≤ k ∧ (p.length : Int) ≤ k)) :
    Calls Tryd.prog 68 #[v, .int .i64 i, .int .i64 k] w fun e w' => e = .returned (.tuple #[.bool false, .iface 115 (.int .i64 1)]) ∧ Only [] w w' := by
  have hr := plan_Right v p w h
  rw [he, errV_zero] at hr
  obtain ⟨a, c, rfl, _⟩ := h.task
  generalize p.length = n at *
  clear h he
  rcases ho with h1 | ⟨h1, h2⟩ | ⟨h1, h2, h3⟩ | ⟨h1, h2, h3, h4⟩
  all_goals
    go_enter Tryd.func68, Tryd.ntmps68
    go_wp2_with fail
    refine hr.mono ?_
    rintro e w1 ⟨rfl, ho⟩
    clear hr
    go_wp2
    go_ret2
    exact ⟨rfl, ho⟩

open Classical in
set_option maxHeartbeats 16000000 in
set_option maxRecDepth 100000 in
theorem walk (v0 : Value) (l0 : PlanL) (a1 : Int) (a2 : Int) (w : World) (hglob : Glob w) (w0 : ArgPlan w v0 l0) (w1 : (Lit.int .i64 a1).wf = true) (w2 : (Lit.int .i64 a2).wf = true) :
    Calls Tryd.prog 12 #[v0, .int .i64 a1, .int .i64 a2] w fun e w' => e = .returned (.bool true) ∧ Below w.heap.size w w' := by
  have bd1 := bounds_i64 w1
  have bd2 := bounds_i64 w2
  have HP := Lib.hid w0.2
  have HG := Lib.hid hglob
  have hR := ref_Right _ l0 w w0.2
  have hlm : l0.length ≤ 9223372036854775807 := by obtain ⟨_, _, _, h1, h2, _⟩ := w0.2.task; unfold maxLen at h2; omega
  clear hglob w0 w1 w2
  by_cases h0 : planFault l0 = 0
  · have hok := (planOk_iff l0).2 h0
    have HF0 := Lib.hid h0
    have HO := Lib.hid hok
    have h30 := hok.len
    have hWk := Lib.hid (fun w' (ho : Only [] w w') => ref_Work v0 l0 w' (HP.out.same ho) HO.out)
    have hSp := Lib.hid (fun w' (ho : Only [] w w') => ref_Span v0 l0 w' (HP.out.same ho) HO.out)
    have hRk := Lib.hid (fun w' (ho : Only [] w w') => ref_Ranks v0 l0 w' (HP.out.same ho) HO.out)
    have hTl := Lib.hid (fun w' (ho : Only [] w w') => ref_Tails v0 l0 w' (HP.out.same ho) HO.out)
    have hLg := Lib.hid (fun w' (ho : Only [] w w') => ref_Longest v0 l0 w' (HP.out.same ho) HO.out)
    have gWk := Lib.hid (fun w' (ho : Only [] w w') => depth_Work v0 l0 w' (HP.out.same ho) HO.out)
    have gSp := Lib.hid (fun w' (ho : Only [] w w') => depth_Span v0 l0 w' (HP.out.same ho) HO.out)
    have gRk := Lib.hid (fun w' (ho : Only [] w w') => depth_Ranks v0 l0 w' (HP.out.same ho) HO.out)
    have gTl := Lib.hid (fun w' (ho : Only [] w w') => depth_Tails v0 l0 w' (HP.out.same ho) HO.out)
    have gLg := Lib.hid (fun w' (ho : Only [] w w') => depth_Longest v0 l0 w' (HP.out.same ho) HO.out)
    have hAb := Lib.hid (fun w' (ho : Only [] w w') => ref_Above v0 l0 w' (HP.out.same ho) HO.out.needsOk)
    have gRe := Lib.hid (fun (i k : Nat) w' (ho : Only [] w w') hi hk => depth_Reaches v0 l0 i k w' (HP.out.same ho) HO.out hi hk)
    have gRo := Lib.hid (fun (i k : Int) w' (ho : Only [] w w') hx => reaches_out v0 l0 i k w' (HP.out.same ho) HF0.out HO.out.len hx)
    have hwl : Hid ((natL (wayOf l0)).length ≤ 1000000) := by show _ ≤ _; rw [natL_len]; have := wayF_len l0 600 (List.range l0.length); unfold wayOf; omega
    obtain ⟨va, vc, rfl, _⟩ := HP.out.task
    rw [h0] at hR
    clear h0 hok
    generalize l0.length = n at *
    generalize workF l0 = wk at *
    generalize spanF l0 = sp at *
    go_enter Tryd.func12, Tryd.ntmps12
    go_wp2_with fail
    refine hR.mono ?_
    rintro e w1 ⟨rfl, ho1⟩
    clear hR
    go_wp2_with fail
    refine (hWk.out w1 ho1).mono ?_
    rintro e w2 ⟨rfl, hw2⟩
    subst hw2
    clear hWk
    go_wp2_with fail
    refine (hSp.out w2 ho1).mono ?_
    rintro e w3 ⟨rfl, ho3⟩
    have ho3 := ho1.trans ho3 (by simp)
    clear hSp ho1
    go_wp2_with fail
    refine (hRk.out w3 ho3).mono ?_
    rintro e w4 ⟨R1, rfl, _, hN, ho4⟩
    have r1 := Lib.hid (hN.reads (by omega))
    have ho4 := ho3.trans ho4 (by simp)
    clear hRk hN ho3
    go_wp2_with fail
    refine (hTl.out w4 ho4).mono ?_
    rintro e w5 ⟨R2, rfl, _, hN, ho5⟩
    have r1 := Lib.hid (rmv r1.out ho5)
    have r2 := Lib.hid (hN.reads (by omega))
    have ho5 := ho4.trans ho5 (by simp)
    clear hTl hN ho4
    go_wp2_with fail
    refine (hLg.out w5 ho5).mono ?_
    rintro e w6 ⟨v3, rfl, hI, ho6⟩
    have r1 := Lib.hid (rmv r1.out ho6)
    have r2 := Lib.hid (rmv r2.out ho6)
    have r3 := Lib.hid hI.reads
    obtain ⟨b3, c3, rfl, _⟩ := hI.opt
    have ho6 := ho5.trans ho6 (by simp)
    clear hLg hI ho5
    go_wp2_with fail
    refine (gWk.out w6 ho6).mono ?_
    rintro e w7 ⟨rfl, ho7⟩
    have r1 := Lib.hid (rmv r1.out ho7)
    have r2 := Lib.hid (rmv r2.out ho7)
    have r3 := Lib.hid (rmv r3.out ho7)
    have ho7 := ho6.trans ho7 (by simp)
    clear gWk ho6
    go_wp2_with fail
    refine (same_nil 0 _ true rfl).mono ?_
    rintro e wx ⟨rfl, rfl⟩
    go_wp2_with fail
    refine (gSp.out w7 ho7).mono ?_
    rintro e w8 ⟨rfl, ho8⟩
    have r1 := Lib.hid (rmv r1.out ho8)
    have r2 := Lib.hid (rmv r2.out ho8)
    have r3 := Lib.hid (rmv r3.out ho8)
    have ho8 := ho7.trans ho8 (by simp)
    clear gSp ho7
    go_wp2_with fail
    refine (same_nil 0 _ true rfl).mono ?_
    rintro e wx ⟨rfl, rfl⟩
    go_wp2_with fail
    refine (gRk.out w8 ho8).mono ?_
    rintro e w9 ⟨P1, rfl, _, hN, ho9⟩
    have r1 := Lib.hid (rmv r1.out ho9)
    have r2 := Lib.hid (rmv r2.out ho9)
    have r3 := Lib.hid (rmv r3.out ho9)
    have p1 := Lib.hid (hN.reads (by omega))
    have ho9 := ho8.trans ho9 (by simp)
    clear gRk hN ho8
    go_wp2_with fail
    refine (same_nil 0 _ true rfl).mono ?_
    rintro e wx ⟨rfl, rfl⟩
    go_wp2_with fail
    refine (gTl.out w9 ho9).mono ?_
    rintro e wa ⟨P2, rfl, _, hN, hoa⟩
    have r1 := Lib.hid (rmv r1.out hoa)
    have r2 := Lib.hid (rmv r2.out hoa)
    have r3 := Lib.hid (rmv r3.out hoa)
    have p1 := Lib.hid (rmv p1.out hoa)
    have p2 := Lib.hid (hN.reads (by omega))
    have hoa := ho9.trans hoa (by simp)
    clear gTl hN ho9
    go_wp2_with fail
    refine (same_nil 0 _ true rfl).mono ?_
    rintro e wx ⟨rfl, rfl⟩
    go_wp2_with fail
    refine (gLg.out wa hoa).mono ?_
    rintro e wb ⟨u3, rfl, hI, hob⟩
    have r1 := Lib.hid (rmv r1.out hob)
    have r2 := Lib.hid (rmv r2.out hob)
    have r3 := Lib.hid (rmv r3.out hob)
    have p1 := Lib.hid (rmv p1.out hob)
    have p2 := Lib.hid (rmv p2.out hob)
    have p3 := Lib.hid hI.reads
    obtain ⟨d3, e3, rfl, _⟩ := hI.opt
    have hob := hoa.trans hob (by simp)
    clear gLg hI hoa
    go_wp2_with fail
    refine (same_nil 0 _ true rfl).mono ?_
    rintro e wx ⟨rfl, rfl⟩
    have q1 := same_ints _ _ _ wb p1.out r1.out (by rw [numL_len]; omega)
    go_wp2_with fail
    refine q1.mono ?_
    rintro e wx ⟨rfl, d1, rfl⟩
    have hoc := hob.drewN d1
    have r2 := Lib.hid (rmv r2.out ((Only.refl [] wb).drewN d1))
    have r3 := Lib.hid (rmv r3.out ((Only.refl [] wb).drewN d1))
    have p2 := Lib.hid (rmv p2.out ((Only.refl [] wb).drewN d1))
    have p3 := Lib.hid (rmv p3.out ((Only.refl [] wb).drewN d1))
    clear q1 r1 p1 hob
    obtain ⟨wc, hwc⟩ : ∃ wc, wb.drewN d1 = wc := ⟨_, rfl⟩
    rw [hwc] at hoc r2 r3 p2 p3 ⊢
    clear hwc
    have q2 := same_ints _ _ _ wc p2.out r2.out (by rw [numL_len]; omega)
    go_wp2_with fail
    refine q2.mono ?_
    rintro e wx ⟨rfl, d2, rfl⟩
    have hod := hoc.drewN d2
    have r3 := Lib.hid (rmv r3.out ((Only.refl [] wc).drewN d2))
    have p3 := Lib.hid (rmv p3.out ((Only.refl [] wc).drewN d2))
    clear q2 r2 p2 hoc
    obtain ⟨wd, hwd⟩ : ∃ wd, wc.drewN d2 = wd := ⟨_, rfl⟩
    rw [hwd] at hod r3 p3 ⊢
    clear hwd
    have q3 := same_ints _ _ _ wd p3.out r3.out hwl.out
    go_wp2_with fail
    refine q3.mono ?_
    rintro e wx ⟨rfl, d3, rfl⟩
    have hoe := hod.drewN d3
    clear q3 r3 p3 hod hwl
    obtain ⟨we, hwe⟩ : ∃ we, wd.drewN d3 = we := ⟨_, rfl⟩
    rw [hwe] at hoe ⊢
    clear hwe
    generalize (natL (wayOf l0)).length = z9 at *
    by_cases hin : 0 ≤ a1 ∧ a1 < (n : Int) ∧ 0 ≤ a2 ∧ a2 < (n : Int)
    · obtain ⟨i1, i2, k1, k2⟩ := hin
      obtain ⟨i, rfl⟩ := Int.eq_ofNat_of_zero_le i1
      obtain ⟨k, rfl⟩ := Int.eq_ofNat_of_zero_le k1
      have hi : i < n := by omega
      have hk : k < n := by omega
      have hA := hAb.out we hoe
      have hRe := Lib.hid (fun w' (ho : Only [] w w') => gRe.out i k w' ho hi hk)
      have hab : Hid (aboveOf l0 k i = decide (Reach l0 k i)) := rfl
      obtain ⟨x, hx⟩ : ∃ x, decide (Reach l0 k i) = x := ⟨_, rfl⟩
      rw [hx] at hab hRe
      clear hAb gRe gRo hx
      go_wp2_with fail
      refine hA.mono ?_
      rintro e wf ⟨vA, gA, rfl, hT, hof⟩
      have hof2 := hoe.trans hof (by simp)
      obtain ⟨ta, tc, rfl, _, _, hta⟩ := hT.form
      obtain ⟨A9, rfl, _⟩ := hta (by omega)
      have cr := hT.cellRow k hk
      have cb := (hT.bools k hk i hi).1
      rw [hab.out] at cb
      clear hA hT hof hta
      go_wp2_with fail
      refine (hRe.out wf hof2).mono ?_
      rintro e wg ⟨rfl, hog⟩
      have hog := hof2.trans hog (by simp)
      clear hRe hof2
      go_wp2_with fail
      refine (same_nil 0 _ true rfl).mono ?_
      rintro e wx ⟨rfl, rfl⟩
      cases x
      all_goals
        go_wp2
        go_ret
        exact ⟨by rfl, hog.below (Nat.le_refl _) (by simp)⟩
    · have hout : a1 < 0 ∨ (0 ≤ a1 ∧ (n : Int) ≤ a1) ∨ (0 ≤ a1 ∧ a1 < n ∧ a2 < 0) ∨ (0 ≤ a1 ∧ a1 < n ∧ 0 ≤ a2 ∧ (n : Int) ≤ a2) := by omega
      have hRe := Lib.hid (fun w' (ho : Only [] w w') => gRo.out a1 a2 w' ho hout)
      clear hAb gRe gRo hin
      rcases hout with h1 | ⟨h1, h2⟩ | ⟨h1, h2, h3⟩ | ⟨h1, h2, h3, h4⟩
      all_goals
        go_wp2_with fail
        refine (hRe.out we hoe).mono ?_
        rintro e wg ⟨rfl, hog⟩
        have hog := hoe.trans hog (by simp)
        have hgl := HG.out.only hog
        clear hRe hoe
        go_wp2_with fail
        refine (same_err 1 1 _ hgl true (by simp)).mono ?_
        rintro e wh ⟨rfl, hoh⟩
        have hoh := hog.trans hoh (by simp)
        clear hgl hog
        go_wp2
        go_ret
        exact ⟨by rfl, hoh.below (Nat.le_refl _) (by simp)⟩
  · have gWk := Lib.hid (fun w' (ho : Only [] w w') => depth_Work_no v0 l0 w' (HP.out.same ho) h0)
    have gSp := Lib.hid (fun w' (ho : Only [] w w') => depth_Span_no v0 l0 w' (HP.out.same ho) h0)
    have gRk := Lib.hid (fun w' (ho : Only [] w w') => depth_Ranks_no v0 l0 w' (HP.out.same ho) h0)
    have gTl := Lib.hid (fun w' (ho : Only [] w w') => depth_Tails_no v0 l0 w' (HP.out.same ho) h0)
    have gLg := Lib.hid (fun w' (ho : Only [] w w') => depth_Longest_no v0 l0 w' (HP.out.same ho) h0)
    have gRe := Lib.hid (fun w' (ho : Only [] w w') => reaches_no v0 l0 a1 a2 w' (HP.out.same ho) h0)
    have hnil := Lib.hid (fun w' => same_ints (.slice none 0 0) (.slice none 0 0) [] w' (.inl ⟨rfl, .inl rfl⟩) (.inl ⟨rfl, .inl rfl⟩) (by simp))
    obtain ⟨va, vc, rfl, _⟩ := HP.out.task
    obtain ⟨E, hE⟩ : ∃ E, planFault l0 = E := ⟨_, rfl⟩
    rw [hE] at hR gWk gSp gRk gTl gLg gRe h0
    generalize l0.length = n at *
    have hp0 : (E == 0) = false := by simpa using h0
    clear h0 hE
    go_enter Tryd.func12, Tryd.ntmps12
    go_wp2_with fail
    refine hR.mono ?_
    rintro e w1 ⟨rfl, ho1⟩
    clear hR
    go_wp2_with fail
    refine (gWk.out w1 ho1).mono ?_
    rintro e w2 ⟨rfl, ho2⟩
    have ho2 := ho1.trans ho2 (by simp)
    have hgl := HG.out.only ho2
    clear gWk ho1
    go_wp2_with fail
    refine (same_err E E _ hgl true (by simp)).mono ?_
    rintro e w3 ⟨rfl, ho3⟩
    have ho3 := ho2.trans ho3 (by simp)
    clear hgl ho2
    go_wp2_with fail
    refine (gSp.out w3 ho3).mono ?_
    rintro e w4 ⟨rfl, ho4⟩
    have ho4 := ho3.trans ho4 (by simp)
    have hgl := HG.out.only ho4
    clear gSp ho3
    go_wp2_with fail
    refine (same_err E E _ hgl true (by simp)).mono ?_
    rintro e w5 ⟨rfl, ho5⟩
    have ho5 := ho4.trans ho5 (by simp)
    clear hgl ho4
    go_wp2_with fail
    refine (gRk.out w5 ho5).mono ?_
    rintro e w6 ⟨rfl, ho6⟩
    have ho6 := ho5.trans ho6 (by simp)
    have hgl := HG.out.only ho6
    clear gRk ho5
    go_wp2_with fail
    refine (same_err E E _ hgl true (by simp)).mono ?_
    rintro e w7 ⟨rfl, ho7⟩
    have ho7 := ho6.trans ho7 (by simp)
    clear hgl ho6
    go_wp2_with fail
    refine (gTl.out w7 ho7).mono ?_
    rintro e w8 ⟨rfl, ho8⟩
    have ho8 := ho7.trans ho8 (by simp)
    have hgl := HG.out.only ho8
    clear gTl ho7
    go_wp2_with fail
    refine (same_err E E _ hgl true (by simp)).mono ?_
    rintro e w9 ⟨rfl, ho9⟩
    have ho9 := ho8.trans ho9 (by simp)
    clear hgl ho8
    go_wp2_with fail
    refine (gLg.out w9 ho9).mono ?_
    rintro e wa ⟨rfl, hoa⟩
    have hoa := ho9.trans hoa (by simp)
    have hgl := HG.out.only hoa
    clear gLg ho9
    go_wp2_with fail
    refine (same_err E E _ hgl true (by simp)).mono ?_
    rintro e wb ⟨rfl, hob⟩
    have hob := hoa.trans hob (by simp)
    clear hgl hoa
    go_wp2_with fail
    refine (hnil.out wb).mono ?_
    rintro e wx ⟨rfl, d1, rfl⟩
    have hoc := hob.drewN d1
    clear hob
    obtain ⟨wc, hwc⟩ : ∃ wc, wb.drewN d1 = wc := ⟨_, rfl⟩
    rw [hwc] at hoc ⊢
    clear hwc
    go_wp2_with fail
    refine (hnil.out wc).mono ?_
    rintro e wx ⟨rfl, d2, rfl⟩
    have hod := hoc.drewN d2
    clear hoc
    obtain ⟨wd, hwd⟩ : ∃ wd, wc.drewN d2 = wd := ⟨_, rfl⟩
    rw [hwd] at hod ⊢
    clear hwd
    go_wp2_with fail
    refine (hnil.out wd).mono ?_
    rintro e wx ⟨rfl, d3, rfl⟩
    have hoe := hod.drewN d3
    clear hod
    obtain ⟨we, hwe⟩ : ∃ we, wd.drewN d3 = we := ⟨_, rfl⟩
    rw [hwe] at hoe ⊢
    clear hwe hnil
    go_wp2_with fail
    refine (gRe.out we hoe).mono ?_
    rintro e wf ⟨rfl, hof⟩
    have hof := hoe.trans hof (by simp)
    have hgl := HG.out.only hof
    clear gRe hoe
    go_wp2_with fail
    refine (same_err E E _ hgl true (by simp)).mono ?_
    rintro e wg ⟨rfl, hog⟩
    have hog := hof.trans hog (by simp)
    clear hgl hof
    go_wp2
    go_ret
    exact ⟨by rfl, hog.below (Nat.le_refl _) (by simp)⟩

end Go.Proofs.YtadjcooemeaaeaaDoor.depthTells
