/-
  The statement ListTells: any plan done by any hands, by any order, and how long that is; the most urgent order. No condition but the listed variable's.
-/
import Derived.Test.YtloojhnhialenaaGreatDoorP1ListTells
import Derived.Test.YtloojhnhialenaaGreatDoorP22ListTells
import Derived.Test.YtloojhnhialenaaGreatDoorP28ListTells
import Derived.Test.YtloojhnhialenaaGreatDoorP29ListTells
import Derived.Test.YtloojhnhialenaaGreatDoorP31ListTells
import Derived.Test.YtloojhnhialenaaGreatDoorP33ListTells
import Derived.Test.YtloojhnhialenaaGreatDoorP34ListTells
namespace Go.Proofs.YtloojhnhialenaaGreatDoor.listTells
open Go.ChangeShapes Go.WideShapes Go.ChangeAt Go.RowKit
open Go.ChangeMaps (open_string shut_string)
set_option linter.unusedVariables false


theorem runs_A {p : PlanL} {hands : Int} {order : List Int} {F : Int} (h : planFault p = F) (h0 : F ≠ 0) : RunsTo p hands order F [] := by
  have e : hErr p hands = F := by unfold hErr; rw [h, if_neg h0]
  exact .inl ⟨h0, by rw [lErr_h (by rw [e]; exact h0), e], rfl⟩
theorem runs_B {p : PlanL} {hands : Int} {order : List Int} (h : planFault p = 0) (h1 : ¬ (1 ≤ hands ∧ hands ≤ 6)) : RunsTo p hands order 1 [] := by
  have e : hErr p hands = 1 := by unfold hErr; rw [if_pos h, if_neg h1]
  exact .inl ⟨by decide, by rw [lErr_h (by rw [e]; decide), e], rfl⟩
theorem runs_C {p : PlanL} {hands : Int} {order : List Int} (h : planFault p = 0) (h1 : 1 ≤ hands ∧ hands ≤ 6) (hE : ¬ EachOf p.length order) : RunsTo p hands order 3 [] := by
  have e : hErr p hands = 0 := by unfold hErr; rw [if_pos h, if_pos h1]
  exact .inl ⟨by decide, by rw [lErr_each e, if_neg hE], rfl⟩

set_option maxHeartbeats 16000000 in
set_option maxRecDepth 100000 in
theorem walk (v0 : Value) (l0 : PlanL) (a1 : Int) (v2 : Value) (l2 : List Int) (w : World) (hglob : Glob w) (w0 : ArgPlan w v0 l0) (w1 : (Lit.int .i64 a1).wf = true) (w2 : SizedInts w v2 l2) :
    Calls Tryz.prog 5 #[v0, .int .i64 a1, v2] w fun e w' => e = .returned (.bool true) ∧ Below w.heap.size w w' := by
  have HG := Lib.hid hglob
  have HP := Lib.hid w0.2
  have bd1 := bounds_i64 w1
  have HV := Lib.hid w2.1.reads
  have hol : l2.length ≤ 17592186044416 := by have := w2.2; omega
  have hR := ref_Right _ l0 w w0.2
  clear w0 w1 w2 hglob
  obtain ⟨F, hF⟩ : ∃ F, planFault l0 = F := ⟨_, rfl⟩
  have HF := Lib.hid hF
  rw [hF] at hR
  have HUR := Lib.hid (fun W (h : Only [] w W) => urgent_to v0 l0 F W (HP.out.same h) HF.out)
  have HRT := Lib.hid (fun E ss (hr : RunsTo l0 a1 l2 E ss) W (h : Only [] w W) => run_to v0 v2 l0 a1 l2 E ss W hr (HP.out.same h) (HV.out.same h) hol)
  have HLT := Lib.hid (fun E ss (hr : RunsTo l0 a1 l2 E ss) W (h : Only [] w W) => long_to v0 v2 l0 a1 l2 E ss W hr (HP.out.same h) (HV.out.same h) hol)
  have HGE := Lib.hid (fun E W (h : Only [] w W) => same_errV E W (HG.out.only h))
  obtain ⟨va, vc, rfl, _⟩ := HP.out.task
  obtain ⟨oa, oc, rfl, _⟩ := HV.out.opt
  obtain ⟨n, hn⟩ : ∃ n, l0.length = n := ⟨_, rfl⟩
  obtain ⟨q, hq⟩ : ∃ q, l2.length = q := ⟨_, rfl⟩
  have HN := Lib.hid hn
  have HQ := Lib.hid hq
  rw [hn] at HP HUR HRT HLT hR ⊢
  rw [hq] at HV HRT HLT hol ⊢
  clear hF hn hq
  by_cases h0 : F = 0
  · subst h0
    have hok := (planOk_iff l0).2 HF.out
    have h30 := hok.len
    rw [HN.out] at h30
    by_cases hh : 1 ≤ a1 ∧ a1 ≤ 6
    · have hea := Lib.hid (fun W (h : Only [] w W) => ref_Each n (.slice oa q oc) l2 W (HV.out.same h) (by rw [HQ.out]; omega) (by omega))
      by_cases hE : EachOf n l2
      · obtain ⟨k, rfl⟩ := Int.eq_ofNat_of_zero_le (show 0 ≤ a1 by omega)
        have hE' : EachOf l0.length l2 := by rw [HN.out]; exact hE
        have hh1 : 1 ≤ k := by omega
        have hh6 : k ≤ 6 := by omega
        have hli := Lib.hid (fun W (h : Only [] w W) => ref_List (.slice va n vc) (.slice oa q oc) l0 k l2 W (HP.out.same h) (HV.out.same h) hok hh1 hh6 hE')
        have HD := Lib.hid (fun ss (h : LEnd l0 k l2 ss) => (show RunsTo l0 (k : Int) l2 0 ss from .inr ⟨rfl, hok, k, rfl, hh1, hh6, hE', h⟩))
        rw [decide_eq_true hE] at hea
        clear hok hE hE'
        go_enter Tryz.func5, Tryz.ntmps5
        go_wp2_with fail
        refine hR.mono ?_
        rintro e wA ⟨rfl, hoA⟩
        clear hR
        
        go_wp2_with fail
        refine (hea.out wA hoA).mono ?_
        rintro e wA2 ⟨rfl, hoA2⟩
        have hoA := hoA.trans hoA2 (by simp)
        obtain ⟨wA, rfl⟩ : ∃ wA, wA = wA2 := ⟨_, rfl⟩
        
        clear hea
        go_wp2_with fail
        refine (hli.out wA hoA).mono ?_
        rintro e wA3 ⟨vw, ss, rfl, hend, hO, hoA3⟩
        have hoA := hoA.trans hoA3 (by simp)
        have HST := Lib.hid hO.at
        have HRS := Lib.hid (HD.out ss hend)
        obtain ⟨wA, rfl⟩ : ∃ wA, wA = wA3 := ⟨_, rfl⟩
        clear hli HD hO hend hoA3
        
        have hrun := HRT.out _ _ HRS.out wA hoA
        have hss := HRS.out.len
        clear HRT
        go_wp2_with fail
        refine hrun.mono ?_
        rintro e wB ⟨vB, rfl, hSB, hoB⟩
        have hSA := HST.out.same hoB
        have hoB := hoA.trans hoB (by simp)
        have hse := HGE.out 0 wB hoB
        clear hrun hoA HST
        go_wp2_with fail
        refine hse.mono ?_
        rintro e wC ⟨rfl, hoC⟩
        have hst := same_stays vB _ _ wC (hSB.same hoC) (hSA.same hoC) (by omega)
        have HSA := Lib.hid (hSA.same hoC)
        have hoC := hoB.trans hoC (by simp)
        clear hse hSB hSA hoB
        go_wp2_with fail
        refine hst.mono ?_
        rintro e wD ⟨rfl, dD, rfl⟩
        have HSD := Lib.hid (HSA.out.same ((Only.refl [] wC).drewN dD))
        have hoD := hoC.drewN dD
        obtain ⟨wD, hwD⟩ : ∃ wD, wC.drewN dD = wD := ⟨_, rfl⟩
        rw [hwD] at hoD HSD ⊢
        clear hst hwD hoC HSA
        have hlong := HLT.out _ _ HRS.out wD hoD
        clear HLT
        go_wp2_with fail
        refine hlong.mono ?_
        rintro e wE ⟨rfl, hoE⟩
        have hSE := HSD.out.same hoE
        have hoE := hoD.trans hoE (by simp)
        have hse := HGE.out 0 wE hoE
        clear hlong hoD HSD
        go_wp2_with fail
        refine hse.mono ?_
        rintro e wE1 ⟨rfl, hoE1⟩
        have hen := ref_Ends _ _ wE1 (hSE.same hoE1) (by omega)
        have hoE1 := hoE.trans hoE1 (by simp)
        clear hse hSE hoE
        go_wp2_with fail
        refine hen.mono ?_
        rintro e wE2 ⟨rfl, dE, rfl⟩
        have hoE2 := hoE1.drewN dE
        obtain ⟨wE, hwE⟩ : ∃ wE, wE1.drewN dE = wE := ⟨_, rfl⟩
        rw [hwE] at hoE2 ⊢
        clear hen hwE hoE1
        
        have hok9 : PlanOk l0 := (planOk_iff l0).2 HF.out
        have hur := ref_Urgent _ l0 wE (HP.out.same hoE2) hok9
        have hcut9 : Hid (urgL (tailF l0) l0.length = urgTo l0 0) := by show _ = _; unfold urgTo; rw [if_pos rfl]
        rw [hcut9.out] at hur
        go_wp2_with fail
        refine hur.mono ?_
        rintro e wF ⟨vF, rfl, hUF, hoF⟩
        have hUF := hUF.reads
        have hoF := hoE2.trans hoF (by simp)
        clear hur hoE2
        
        have huc := HUR.out wF hoF
        clear HUR
        go_wp2_with fail
        refine huc.mono ?_
        rintro e wG ⟨vG, rfl, hUG, hoG⟩
        have hUF := hUF.same hoG
        have hoG := hoF.trans hoG (by simp)
        have hse := HGE.out 0 wG hoG
        clear huc hoF
        go_wp2_with fail
        refine hse.mono ?_
        rintro e wH ⟨rfl, hoH⟩
        have hsi := same_ints vG _ _ wH (hUG.same hoH) (hUF.same hoH) (by unfold urgTo; split <;> simp [urgL_len]; rw [HN.out]; omega)
        have hoH := hoG.trans hoH (by simp)
        clear hse hUG hUF hoG
        go_wp2_with fail
        refine hsi.mono ?_
        rintro e wI ⟨rfl, dI, rfl⟩
        have hfin := Lib.hid (hoH.drewN dI)
        clear hsi hoH
        go_wp2_with fail
        go_ret
        exact ⟨by rfl, hfin.out.below (Nat.le_refl _) (by simp)⟩
      · have HRS := Lib.hid (runs_C HF.out hh (by rw [HN.out]; exact hE) : RunsTo l0 a1 l2 3 [])
        rw [decide_eq_false hE] at hea
        clear hok hE
        go_enter Tryz.func5, Tryz.ntmps5
        go_wp2_with fail
        refine hR.mono ?_
        rintro e wA ⟨rfl, hoA⟩
        clear hR
        
        go_wp2_with fail
        refine (hea.out wA hoA).mono ?_
        rintro e wA2 ⟨rfl, hoA2⟩
        have hoA := hoA.trans hoA2 (by simp)
        obtain ⟨wA, rfl⟩ : ∃ wA, wA = wA2 := ⟨_, rfl⟩
        clear hea
        have HST := Lib.hid ((OwnStays.nil wA 0).at : StaysAt wA (.slice none 0 0) [])
        
        have hrun := HRT.out _ _ HRS.out wA hoA
        have hss := HRS.out.len
        clear HRT
        go_wp2_with fail
        refine hrun.mono ?_
        rintro e wB ⟨vB, rfl, hSB, hoB⟩
        have hSA := HST.out.same hoB
        have hoB := hoA.trans hoB (by simp)
        have hse := HGE.out 3 wB hoB
        clear hrun hoA HST
        go_wp2_with fail
        refine hse.mono ?_
        rintro e wC ⟨rfl, hoC⟩
        have hst := same_stays vB _ _ wC (hSB.same hoC) (hSA.same hoC) (by omega)
        have HSA := Lib.hid (hSA.same hoC)
        have hoC := hoB.trans hoC (by simp)
        clear hse hSB hSA hoB
        go_wp2_with fail
        refine hst.mono ?_
        rintro e wD ⟨rfl, dD, rfl⟩
        have HSD := Lib.hid (HSA.out.same ((Only.refl [] wC).drewN dD))
        have hoD := hoC.drewN dD
        obtain ⟨wD, hwD⟩ : ∃ wD, wC.drewN dD = wD := ⟨_, rfl⟩
        rw [hwD] at hoD HSD ⊢
        clear hst hwD hoC HSA
        have hlong := HLT.out _ _ HRS.out wD hoD
        clear HLT
        go_wp2_with fail
        refine hlong.mono ?_
        rintro e wE ⟨rfl, hoE⟩
        have hSE := HSD.out.same hoE
        have hoE := hoD.trans hoE (by simp)
        have hse := HGE.out 3 wE hoE
        clear hlong hoD HSD
        go_wp2_with fail
        refine hse.mono ?_
        rintro e wE1 ⟨rfl, hoE1⟩
        have hen := ref_Ends _ _ wE1 (hSE.same hoE1) (by omega)
        have hoE1 := hoE.trans hoE1 (by simp)
        clear hse hSE hoE
        go_wp2_with fail
        refine hen.mono ?_
        rintro e wE2 ⟨rfl, dE, rfl⟩
        have hoE2 := hoE1.drewN dE
        obtain ⟨wE, hwE⟩ : ∃ wE, wE1.drewN dE = wE := ⟨_, rfl⟩
        rw [hwE] at hoE2 ⊢
        clear hen hwE hoE1
        
        have hok9 : PlanOk l0 := (planOk_iff l0).2 HF.out
        have hur := ref_Urgent _ l0 wE (HP.out.same hoE2) hok9
        have hcut9 : Hid (urgL (tailF l0) l0.length = urgTo l0 0) := by show _ = _; unfold urgTo; rw [if_pos rfl]
        rw [hcut9.out] at hur
        go_wp2_with fail
        refine hur.mono ?_
        rintro e wF ⟨vF, rfl, hUF, hoF⟩
        have hUF := hUF.reads
        have hoF := hoE2.trans hoF (by simp)
        clear hur hoE2
        
        have huc := HUR.out wF hoF
        clear HUR
        go_wp2_with fail
        refine huc.mono ?_
        rintro e wG ⟨vG, rfl, hUG, hoG⟩
        have hUF := hUF.same hoG
        have hoG := hoF.trans hoG (by simp)
        have hse := HGE.out 0 wG hoG
        clear huc hoF
        go_wp2_with fail
        refine hse.mono ?_
        rintro e wH ⟨rfl, hoH⟩
        have hsi := same_ints vG _ _ wH (hUG.same hoH) (hUF.same hoH) (by unfold urgTo; split <;> simp [urgL_len]; rw [HN.out]; omega)
        have hoH := hoG.trans hoH (by simp)
        clear hse hUG hUF hoG
        go_wp2_with fail
        refine hsi.mono ?_
        rintro e wI ⟨rfl, dI, rfl⟩
        have hfin := Lib.hid (hoH.drewN dI)
        clear hsi hoH
        go_wp2_with fail
        go_ret
        exact ⟨by rfl, hfin.out.below (Nat.le_refl _) (by simp)⟩
    · have HRS := Lib.hid (runs_B HF.out hh : RunsTo l0 a1 l2 1 [])
      clear hok
      rcases (show a1 < 1 ∨ (1 ≤ a1 ∧ 6 < a1) by omega) with hb | ⟨hb1, hb2⟩
      · skip
        go_enter Tryz.func5, Tryz.ntmps5
        go_wp2_with fail
        refine hR.mono ?_
        rintro e wA ⟨rfl, hoA⟩
        clear hR
        have HST := Lib.hid ((OwnStays.nil wA 0).at : StaysAt wA (.slice none 0 0) [])
        
        have hrun := HRT.out _ _ HRS.out wA hoA
        have hss := HRS.out.len
        clear HRT
        go_wp2_with fail
        refine hrun.mono ?_
        rintro e wB ⟨vB, rfl, hSB, hoB⟩
        have hSA := HST.out.same hoB
        have hoB := hoA.trans hoB (by simp)
        have hse := HGE.out 1 wB hoB
        clear hrun hoA HST
        go_wp2_with fail
        refine hse.mono ?_
        rintro e wC ⟨rfl, hoC⟩
        have hst := same_stays vB _ _ wC (hSB.same hoC) (hSA.same hoC) (by omega)
        have HSA := Lib.hid (hSA.same hoC)
        have hoC := hoB.trans hoC (by simp)
        clear hse hSB hSA hoB
        go_wp2_with fail
        refine hst.mono ?_
        rintro e wD ⟨rfl, dD, rfl⟩
        have HSD := Lib.hid (HSA.out.same ((Only.refl [] wC).drewN dD))
        have hoD := hoC.drewN dD
        obtain ⟨wD, hwD⟩ : ∃ wD, wC.drewN dD = wD := ⟨_, rfl⟩
        rw [hwD] at hoD HSD ⊢
        clear hst hwD hoC HSA
        have hlong := HLT.out _ _ HRS.out wD hoD
        clear HLT
        go_wp2_with fail
        refine hlong.mono ?_
        rintro e wE ⟨rfl, hoE⟩
        have hSE := HSD.out.same hoE
        have hoE := hoD.trans hoE (by simp)
        have hse := HGE.out 1 wE hoE
        clear hlong hoD HSD
        go_wp2_with fail
        refine hse.mono ?_
        rintro e wE1 ⟨rfl, hoE1⟩
        have hen := ref_Ends _ _ wE1 (hSE.same hoE1) (by omega)
        have hoE1 := hoE.trans hoE1 (by simp)
        clear hse hSE hoE
        go_wp2_with fail
        refine hen.mono ?_
        rintro e wE2 ⟨rfl, dE, rfl⟩
        have hoE2 := hoE1.drewN dE
        obtain ⟨wE, hwE⟩ : ∃ wE, wE1.drewN dE = wE := ⟨_, rfl⟩
        rw [hwE] at hoE2 ⊢
        clear hen hwE hoE1
        
        have hok9 : PlanOk l0 := (planOk_iff l0).2 HF.out
        have hur := ref_Urgent _ l0 wE (HP.out.same hoE2) hok9
        have hcut9 : Hid (urgL (tailF l0) l0.length = urgTo l0 0) := by show _ = _; unfold urgTo; rw [if_pos rfl]
        rw [hcut9.out] at hur
        go_wp2_with fail
        refine hur.mono ?_
        rintro e wF ⟨vF, rfl, hUF, hoF⟩
        have hUF := hUF.reads
        have hoF := hoE2.trans hoF (by simp)
        clear hur hoE2
        
        have huc := HUR.out wF hoF
        clear HUR
        go_wp2_with fail
        refine huc.mono ?_
        rintro e wG ⟨vG, rfl, hUG, hoG⟩
        have hUF := hUF.same hoG
        have hoG := hoF.trans hoG (by simp)
        have hse := HGE.out 0 wG hoG
        clear huc hoF
        go_wp2_with fail
        refine hse.mono ?_
        rintro e wH ⟨rfl, hoH⟩
        have hsi := same_ints vG _ _ wH (hUG.same hoH) (hUF.same hoH) (by unfold urgTo; split <;> simp [urgL_len]; rw [HN.out]; omega)
        have hoH := hoG.trans hoH (by simp)
        clear hse hUG hUF hoG
        go_wp2_with fail
        refine hsi.mono ?_
        rintro e wI ⟨rfl, dI, rfl⟩
        have hfin := Lib.hid (hoH.drewN dI)
        clear hsi hoH
        go_wp2_with fail
        go_ret
        exact ⟨by rfl, hfin.out.below (Nat.le_refl _) (by simp)⟩
      · skip
        go_enter Tryz.func5, Tryz.ntmps5
        go_wp2_with fail
        refine hR.mono ?_
        rintro e wA ⟨rfl, hoA⟩
        clear hR
        have HST := Lib.hid ((OwnStays.nil wA 0).at : StaysAt wA (.slice none 0 0) [])
        
        have hrun := HRT.out _ _ HRS.out wA hoA
        have hss := HRS.out.len
        clear HRT
        go_wp2_with fail
        refine hrun.mono ?_
        rintro e wB ⟨vB, rfl, hSB, hoB⟩
        have hSA := HST.out.same hoB
        have hoB := hoA.trans hoB (by simp)
        have hse := HGE.out 1 wB hoB
        clear hrun hoA HST
        go_wp2_with fail
        refine hse.mono ?_
        rintro e wC ⟨rfl, hoC⟩
        have hst := same_stays vB _ _ wC (hSB.same hoC) (hSA.same hoC) (by omega)
        have HSA := Lib.hid (hSA.same hoC)
        have hoC := hoB.trans hoC (by simp)
        clear hse hSB hSA hoB
        go_wp2_with fail
        refine hst.mono ?_
        rintro e wD ⟨rfl, dD, rfl⟩
        have HSD := Lib.hid (HSA.out.same ((Only.refl [] wC).drewN dD))
        have hoD := hoC.drewN dD
        obtain ⟨wD, hwD⟩ : ∃ wD, wC.drewN dD = wD := ⟨_, rfl⟩
        rw [hwD] at hoD HSD ⊢
        clear hst hwD hoC HSA
        have hlong := HLT.out _ _ HRS.out wD hoD
        clear HLT
        go_wp2_with fail
        refine hlong.mono ?_
        rintro e wE ⟨rfl, hoE⟩
        have hSE := HSD.out.same hoE
        have hoE := hoD.trans hoE (by simp)
        have hse := HGE.out 1 wE hoE
        clear hlong hoD HSD
        go_wp2_with fail
        refine hse.mono ?_
        rintro e wE1 ⟨rfl, hoE1⟩
        have hen := ref_Ends _ _ wE1 (hSE.same hoE1) (by omega)
        have hoE1 := hoE.trans hoE1 (by simp)
        clear hse hSE hoE
        go_wp2_with fail
        refine hen.mono ?_
        rintro e wE2 ⟨rfl, dE, rfl⟩
        have hoE2 := hoE1.drewN dE
        obtain ⟨wE, hwE⟩ : ∃ wE, wE1.drewN dE = wE := ⟨_, rfl⟩
        rw [hwE] at hoE2 ⊢
        clear hen hwE hoE1
        
        have hok9 : PlanOk l0 := (planOk_iff l0).2 HF.out
        have hur := ref_Urgent _ l0 wE (HP.out.same hoE2) hok9
        have hcut9 : Hid (urgL (tailF l0) l0.length = urgTo l0 0) := by show _ = _; unfold urgTo; rw [if_pos rfl]
        rw [hcut9.out] at hur
        go_wp2_with fail
        refine hur.mono ?_
        rintro e wF ⟨vF, rfl, hUF, hoF⟩
        have hUF := hUF.reads
        have hoF := hoE2.trans hoF (by simp)
        clear hur hoE2
        
        have huc := HUR.out wF hoF
        clear HUR
        go_wp2_with fail
        refine huc.mono ?_
        rintro e wG ⟨vG, rfl, hUG, hoG⟩
        have hUF := hUF.same hoG
        have hoG := hoF.trans hoG (by simp)
        have hse := HGE.out 0 wG hoG
        clear huc hoF
        go_wp2_with fail
        refine hse.mono ?_
        rintro e wH ⟨rfl, hoH⟩
        have hsi := same_ints vG _ _ wH (hUG.same hoH) (hUF.same hoH) (by unfold urgTo; split <;> simp [urgL_len]; rw [HN.out]; omega)
        have hoH := hoG.trans hoH (by simp)
        clear hse hUG hUF hoG
        go_wp2_with fail
        refine hsi.mono ?_
        rintro e wI ⟨rfl, dI, rfl⟩
        have hfin := Lib.hid (hoH.drewN dI)
        clear hsi hoH
        go_wp2_with fail
        go_ret
        exact ⟨by rfl, hfin.out.below (Nat.le_refl _) (by simp)⟩
  · have HRS := Lib.hid (runs_A HF.out h0 : RunsTo l0 a1 l2 F [])
    go_enter Tryz.func5, Tryz.ntmps5
    go_wp2_with fail
    refine hR.mono ?_
    rintro e wA ⟨rfl, hoA⟩
    clear hR
    have HST := Lib.hid ((OwnStays.nil wA 0).at : StaysAt wA (.slice none 0 0) [])
    
    have hrun := HRT.out _ _ HRS.out wA hoA
    have hss := HRS.out.len
    clear HRT
    go_wp2_with fail
    refine hrun.mono ?_
    rintro e wB ⟨vB, rfl, hSB, hoB⟩
    have hSA := HST.out.same hoB
    have hoB := hoA.trans hoB (by simp)
    have hse := HGE.out F wB hoB
    clear hrun hoA HST
    go_wp2_with fail
    refine hse.mono ?_
    rintro e wC ⟨rfl, hoC⟩
    have hst := same_stays vB _ _ wC (hSB.same hoC) (hSA.same hoC) (by omega)
    have HSA := Lib.hid (hSA.same hoC)
    have hoC := hoB.trans hoC (by simp)
    clear hse hSB hSA hoB
    go_wp2_with fail
    refine hst.mono ?_
    rintro e wD ⟨rfl, dD, rfl⟩
    have HSD := Lib.hid (HSA.out.same ((Only.refl [] wC).drewN dD))
    have hoD := hoC.drewN dD
    obtain ⟨wD, hwD⟩ : ∃ wD, wC.drewN dD = wD := ⟨_, rfl⟩
    rw [hwD] at hoD HSD ⊢
    clear hst hwD hoC HSA
    have hlong := HLT.out _ _ HRS.out wD hoD
    clear HLT
    go_wp2_with fail
    refine hlong.mono ?_
    rintro e wE ⟨rfl, hoE⟩
    have hSE := HSD.out.same hoE
    have hoE := hoD.trans hoE (by simp)
    have hse := HGE.out F wE hoE
    clear hlong hoD HSD
    go_wp2_with fail
    refine hse.mono ?_
    rintro e wE1 ⟨rfl, hoE1⟩
    have hen := ref_Ends _ _ wE1 (hSE.same hoE1) (by omega)
    have hoE1 := hoE.trans hoE1 (by simp)
    clear hse hSE hoE
    go_wp2_with fail
    refine hen.mono ?_
    rintro e wE2 ⟨rfl, dE, rfl⟩
    have hoE2 := hoE1.drewN dE
    obtain ⟨wE, hwE⟩ : ∃ wE, wE1.drewN dE = wE := ⟨_, rfl⟩
    rw [hwE] at hoE2 ⊢
    clear hen hwE hoE1
    
    have hUF : Reads wE (.slice none 0 0) (urgTo l0 F) := by unfold urgTo; rw [if_neg h0]; exact .inl ⟨rfl, .inl rfl⟩
    have hoF := hoE2
    obtain ⟨wF, rfl⟩ : ∃ wF, wF = wE := ⟨_, rfl⟩
    
    have huc := HUR.out wF hoF
    clear HUR
    go_wp2_with fail
    refine huc.mono ?_
    rintro e wG ⟨vG, rfl, hUG, hoG⟩
    have hUF := hUF.same hoG
    have hoG := hoF.trans hoG (by simp)
    have hse := HGE.out F wG hoG
    clear huc hoF
    go_wp2_with fail
    refine hse.mono ?_
    rintro e wH ⟨rfl, hoH⟩
    have hsi := same_ints vG _ _ wH (hUG.same hoH) (hUF.same hoH) (by unfold urgTo; split <;> simp [urgL_len]; rw [HN.out]; omega)
    have hoH := hoG.trans hoH (by simp)
    clear hse hUG hUF hoG
    go_wp2_with fail
    refine hsi.mono ?_
    rintro e wI ⟨rfl, dI, rfl⟩
    have hfin := Lib.hid (hoH.drewN dI)
    clear hsi hoH
    go_wp2_with fail
    go_ret
    exact ⟨by rfl, hfin.out.below (Nat.le_refl _) (by simp)⟩

end Go.Proofs.YtloojhnhialenaaGreatDoor.listTells
