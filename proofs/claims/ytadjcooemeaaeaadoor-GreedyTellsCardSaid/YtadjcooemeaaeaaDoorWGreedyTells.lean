/-
  The statement GreedyTells: any plan done by any hands, step by step, how long that is, and the bound. No condition but the listed variable's.
-/
import Derived.Test.YtadjcooemeaaeaaDoorP1GreedyTells
import Derived.Test.YtadjcooemeaaeaaDoorP3GreedyTells
import Derived.Test.YtadjcooemeaaeaaDoorP20GreedyTells
import Derived.Test.YtadjcooemeaaeaaDoorP24GreedyTells
import Derived.Test.YtadjcooemeaaeaaDoorP27GreedyTells
import Derived.Test.YtadjcooemeaaeaaDoorP29GreedyTells
import Derived.Test.YtadjcooemeaaeaaDoorP32GreedyTells
namespace Go.Proofs.YtadjcooemeaaeaaDoor.greedyTells
open Go.ChangeShapes Go.WideShapes Go.ChangeAt Go.RowKit
open Go.ChangeMaps (open_string shut_string)
set_option linter.unusedVariables false


theorem gBits_wf {p : PlanL} (hok : PlanOk p) (hands t : Nat) : ∀ b ∈ gBits p hands t, 0 ≤ b.step ∧ b.step < t := by
  induction t with
  | zero => intro b hb; cases hb
  | succ t ih =>
    intro b hb
    rcases List.mem_append.1 hb with hb | hb
    · have := ih b hb; omega
    · unfold rowBits at hb
      obtain ⟨j, _, rfl⟩ := List.mem_map.1 hb
      show (0 : Int) ≤ (t : Int) ∧ (t : Int) < ((t + 1 : Nat) : Int)
      omega
theorem steps_gBits {p : PlanL} (hok : PlanOk p) {hands s : Nat} (he : GEnd p hands s) : stepsOf (gBits p hands s) = s := by
  have h1 : stepsOf (gBits p hands s) ≤ s := stepsOf_le (fun b hb => by have := gBits_wf hok hands s b hb; omega)
  rcases s with _ | s
  · omega
  · have h2 := he.2 s (by omega)
    have h3 : ∃ b ∈ gBits p hands (s + 1), b.step = (s : Int) := by
      obtain ⟨x, r, hx⟩ := List.exists_cons_of_ne_nil h2
      refine ⟨⟨(s : Int), ((0 : Nat) : Int), ((((gAt p hands s)[0]?.getD 0 : Nat)) : Int)⟩, List.mem_append.2 (.inr ?_), rfl⟩
      unfold rowBits
      exact List.mem_map.2 ⟨0, by rw [hx]; simp, rfl⟩
    obtain ⟨b, hb, e⟩ := h3
    have := stepsOf_lt hb
    omega

set_option maxHeartbeats 16000000 in
set_option maxRecDepth 100000 in
theorem walk (v0 : Value) (l0 : PlanL) (a1 : Int) (w : World) (hglob : Glob w) (w0 : ArgPlan w v0 l0) (w1 : (Lit.int .i64 a1).wf = true) :
    Calls Tryd.prog 11 #[v0, .int .i64 a1] w fun e w' => e = .returned (.bool true) ∧ Below w.heap.size w w' := by
  have bd1 := bounds_i64 w1
  have HP := Lib.hid w0.2
  have HG := Lib.hid hglob
  have hR := ref_Right _ l0 w w0.2
  clear hglob w0 w1
  by_cases h0 : hErr l0 a1 = 0
  · obtain ⟨hok, h1, h6⟩ := hErr_zero h0
    have hpf := (planOk_iff l0).1 hok
    have HE := Lib.hid h0
    have HO := Lib.hid hok
    rw [hpf] at hR
    obtain ⟨hands, rfl⟩ := Int.eq_ofNat_of_zero_le (show 0 ≤ a1 by omega)
    have hh1 : 1 ≤ hands := by omega
    have hh6 : hands ≤ 6 := by omega
    have hRG := Lib.hid (fun w' (ho : Only [] w w') => ref_Greedy v0 l0 hands w' (HP.out.same ho) HO.out hh1 hh6)
    have hWk := Lib.hid (fun w' (ho : Only [] w w') => ref_Work v0 l0 w' (HP.out.same ho) HO.out)
    have hSp := Lib.hid (fun w' (ho : Only [] w w') => ref_Span v0 l0 w' (HP.out.same ho) HO.out)
    have hGR := Lib.hid (fun w' (ho : Only [] w w') => greedy_Run v0 l0 hands w' (HP.out.same ho) HO.out hh1 hh6)
    have hGL := Lib.hid (fun w' (ho : Only [] w w') => greedy_Long v0 l0 hands w' (HP.out.same ho) HO.out hh1 hh6)
    have hGB := Lib.hid (fun w' (ho : Only [] w w') => greedy_Bound v0 l0 (hands : Int) w' (HP.out.same ho) HO.out (by omega) (by omega))
    have hwb := workF_bd hok
    have hsb := spanF_bd hok
    obtain ⟨va, vc, rfl, _⟩ := HP.out.task
    generalize l0.length = n at *
    have hbn := bound_num (spanF l0) (hands : Int) (by omega) (by omega) hsb
    have hbf : Hid (boundF l0 (hands : Int) = (workF l0 + ((hands : Int) - 1) * spanF l0) / (hands : Int)) := rfl
    obtain ⟨bf, hbe⟩ : ∃ bf, boundF l0 (hands : Int) = bf := ⟨_, rfl⟩
    rw [hbe] at hbf hGB
    have hq : (workF l0 + ((hands : Int) - 1) * spanF l0).tdiv (hands : Int) = bf := by
      rw [hbf.out]
      exact Int.tdiv_eq_ediv_of_nonneg (by omega)
    have hbq : 0 ≤ bf ∧ bf ≤ 3600 := by
      rw [hbf.out]
      exact ⟨Int.ediv_nonneg (by omega) (by omega), Int.le_trans (Int.ediv_le_self _ (by omega)) (by omega)⟩
    have hw64 : wrap64 bf = bf := by unfold wrap64; omega
    obtain ⟨pr, hpr⟩ : ∃ pr, ((hands : Int) - 1) * spanF l0 = pr := ⟨_, rfl⟩
    rw [hpr] at hq hbn
    obtain ⟨wk, hwk⟩ : ∃ x, workF l0 = x := ⟨_, rfl⟩
    obtain ⟨sp, hsp⟩ : ∃ x, spanF l0 = x := ⟨_, rfl⟩
    rw [hwk] at hWk hwb hq
    rw [hsp] at hSp hsb hpr
    clear h0 hpf hok hbe hbf hwk hsp
    go_enter Tryd.func11, Tryd.ntmps11
    go_wp2_with fail
    refine hR.mono ?_
    rintro e w1 ⟨rfl, ho1⟩
    clear hR
    go_wp2_with fail
    refine (hRG.out w1 ho1).mono ?_
    rintro e w2 ⟨vg, rfl, hO2, ho2⟩
    have ho2 := ho1.trans ho2 (by simp)
    have hSt := ref_Steps vg (gBits l0 hands 601) w2 hO2.at (fun b hb => by have := gBits_wf HO.out hands 601 b hb; omega) (by have := gBits_600 l0 hands 601 HO.out; omega)
    have HAT := Lib.hid hO2.at
    obtain ⟨ga, gc, rfl, _⟩ := hO2.at.opt
    generalize (gBits l0 hands 601).length = gl at *
    obtain ⟨st, hst⟩ : ∃ st, stepsOf (gBits l0 hands 601) = st := ⟨_, rfl⟩
    rw [hst] at hSt
    have HST := Lib.hid hst
    clear hRG ho1 hO2 hst
    go_wp2_with fail
    refine hSt.mono ?_
    rintro e w3 ⟨rfl, ho3⟩
    have HAT3 := Lib.hid (HAT.out.same ho3)
    have ho3 := ho2.trans ho3 (by simp)
    clear hSt ho2 HAT
    go_wp2_with fail
    refine (hWk.out w3 ho3).mono ?_
    rintro e w4 ⟨rfl, hw4⟩
    subst hw4
    clear hWk
    go_wp2_with fail
    refine (hSp.out w4 ho3).mono ?_
    rintro e w5 ⟨rfl, ho5⟩
    have HAT5 := Lib.hid (HAT3.out.same ho5)
    have ho5 := ho3.trans ho5 (by simp)
    clear hSp HAT3 ho3
    go_wp2_with fail
    refine (hGR.out w5 ho5).mono ?_
    rintro e w6 ⟨v6, s6, rfl, hE6, hO6, ho6⟩
    have HAT6 := Lib.hid (HAT5.out.same ho6)
    have hB6 := Lib.hid hO6.at
    have ho6 := ho5.trans ho6 (by simp)
    have hend := gLeft_end hE6 (show s6 ≤ 601 by have := gBits_steps l0 hands s6 hE6.2; have := gBits_600 l0 hands s6 HO.out; omega)
    have hEqB := Lib.hid hend.2.2
    have hEqS : Hid (st = s6) := by show _ = _; rw [← HST.out, hend.2.2, steps_gBits HO.out hE6]
    have HE6 := Lib.hid hE6
    clear hGR ho5 HAT5 hO6 hend hE6
    go_wp2_with fail
    refine (same_nil 0 _ true rfl).mono ?_
    rintro e w7 ⟨rfl, rfl⟩
    have hSB := same_bits v6 _ (gBits l0 hands s6) w6 hB6.out (by rw [← hEqB.out]; exact HAT6.out) (by have := gBits_600 l0 hands s6 HO.out; omega)
    obtain ⟨a6, c6, rfl, _⟩ := hB6.out.opt
    clear HAT6 hB6
    go_wp2_with fail
    refine hSB.mono ?_
    rintro e w7 ⟨rfl, d7, rfl⟩
    have ho7 := ho6.drewN d7
    clear hSB ho6
    obtain ⟨w7, hw7⟩ : ∃ w7, w6.drewN d7 = w7 := ⟨_, rfl⟩
    rw [hw7] at ho7 ⊢
    clear hw7
    go_wp2_with fail
    refine (hGL.out w7 ho7).mono ?_
    rintro e w8 ⟨s8, rfl, hE8, h8, ho8⟩
    have hs8 := gEnd_unique HE6.out hE8
    have hst8 : st = s8 := by rw [hEqS.out]; exact hs8
    have ho8 := ho7.trans ho8 (by simp)
    clear hGL ho7 hE8 hs8
    subst hst8
    go_wp2_with fail
    refine (same_nil 0 _ true rfl).mono ?_
    rintro e w9 ⟨rfl, rfl⟩
    go_wp2_with fail
    refine (hGB.out w8 ho8).mono ?_
    rintro e w9 ⟨rfl, ho9⟩
    have ho9 := ho8.trans ho9 (by simp)
    clear hGB ho8
    go_wp2_with fail
    refine (same_nil 0 _ true rfl).mono ?_
    rintro e w10 ⟨rfl, rfl⟩
    go_wp2
    go_ret
    exact ⟨by rfl, ho9.below (Nat.le_refl _) (by simp)⟩
  · have hGR := Lib.hid (fun w' (ho : Only [] w w') => greedy_Run_no v0 l0 a1 w' (HP.out.same ho) h0)
    have hGL := Lib.hid (fun w' (ho : Only [] w w') => greedy_Long_no v0 l0 a1 w' (HP.out.same ho) h0)
    have hGB := Lib.hid (fun w' (ho : Only [] w w') => greedy_Bound_no v0 l0 a1 w' (HP.out.same ho) h0)
    obtain ⟨va, vc, rfl, _⟩ := HP.out.task
    generalize l0.length = n at *
    have hcs : Hid ((planFault l0 ≠ 0 ∧ hErr l0 a1 = planFault l0) ∨ (planFault l0 = 0 ∧ hErr l0 a1 = 1 ∧ (a1 < 1 ∨ (1 ≤ a1 ∧ 6 < a1)))) := by
      show _ ∨ _
      by_cases hp : planFault l0 = 0
      · right
        unfold hErr at h0 ⊢
        rw [if_pos hp] at h0 ⊢
        by_cases hh : 1 ≤ a1 ∧ a1 ≤ 6
        · rw [if_pos hh] at h0; exact absurd rfl h0
        · rw [if_neg hh]; exact ⟨hp, rfl, by omega⟩
      · left; exact ⟨hp, by unfold hErr; rw [if_neg hp]⟩
    obtain ⟨E, hE⟩ : ∃ E, hErr l0 a1 = E := ⟨_, rfl⟩
    obtain ⟨pf, hpf⟩ : ∃ pf, planFault l0 = pf := ⟨_, rfl⟩
    rw [hE] at hcs hGR hGL hGB h0
    rw [hpf] at hcs hR
    clear hE hpf
    have hnil : ∀ w', Calls Tryd.prog 57 #[.slice none 0 0, .slice none 0 0] w' fun e w'' => e = .returned (.bool true) ∧ ∃ n, w'' = w'.drewN n := fun w' =>
      same_bits _ _ [] w' ⟨rfl, by simp [flatB], .inl ⟨rfl, .inl rfl⟩⟩ ⟨rfl, by simp [flatB], .inl ⟨rfl, .inl rfl⟩⟩ (by simp)
    have hNIL := Lib.hid hnil
    clear hnil
    rcases hcs.out with ⟨hp, rfl⟩ | ⟨rfl, rfl, hh | ⟨hh, hh2⟩⟩
    all_goals
      clear hcs
      try have hp0 : (E == 0) = false := by simpa using h0
      try clear hp
      clear h0
      go_enter Tryd.func11, Tryd.ntmps11
      go_wp2_with fail
      refine hR.mono ?_
      rintro e w1 ⟨rfl, ho1⟩
      clear hR
      go_wp2_with fail
      refine (hGR.out w1 ho1).mono ?_
      rintro e w2 ⟨rfl, ho2⟩
      have ho2 := ho1.trans ho2 (by simp)
      have hgl := HG.out.only ho2
      clear hGR ho1
      go_wp2_with fail
      refine (same_err _ _ _ hgl true (by simp)).mono ?_
      rintro e w3 ⟨rfl, ho3⟩
      have ho3 := ho2.trans ho3 (by simp)
      clear ho2 hgl
      go_wp2_with fail
      refine (hNIL.out w3).mono ?_
      rintro e w4 ⟨rfl, d4, rfl⟩
      have ho4 := ho3.drewN d4
      clear ho3 hNIL
      obtain ⟨w4, hw4⟩ : ∃ w4, w3.drewN d4 = w4 := ⟨_, rfl⟩
      rw [hw4] at ho4 ⊢
      clear hw4
      go_wp2_with fail
      refine (hGL.out w4 ho4).mono ?_
      rintro e w5 ⟨rfl, ho5⟩
      have ho5 := ho4.trans ho5 (by simp)
      have hgl := HG.out.only ho5
      clear hGL ho4
      go_wp2_with fail
      refine (same_err _ _ _ hgl true (by simp)).mono ?_
      rintro e w6 ⟨rfl, ho6⟩
      have ho6 := ho5.trans ho6 (by simp)
      clear ho5 hgl
      go_wp2_with fail
      refine (hGB.out w6 ho6).mono ?_
      rintro e w7 ⟨rfl, ho7⟩
      have ho7 := ho6.trans ho7 (by simp)
      have hgl := HG.out.only ho7
      clear hGB ho6
      go_wp2_with fail
      refine (same_err _ _ _ hgl true (by simp)).mono ?_
      rintro e w8 ⟨rfl, ho8⟩
      have ho8 := ho7.trans ho8 (by simp)
      clear ho7 hgl
      go_wp2
      go_ret
      exact ⟨by rfl, ho8.below (Nat.le_refl _) (by simp)⟩

end Go.Proofs.YtadjcooemeaaeaaDoor.greedyTells
