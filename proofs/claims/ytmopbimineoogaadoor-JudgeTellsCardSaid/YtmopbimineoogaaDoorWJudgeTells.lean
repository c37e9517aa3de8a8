/-
  The statement JudgeTells: whether any bits, or stays, may be a way to do any plan, and when tasks end by that. No condition but the listed variable's.
-/
import Derived.Test.YtmopbimineoogaaDoorP1JudgeTells
import Derived.Test.YtmopbimineoogaaDoorP3JudgeTells
import Derived.Test.YtmopbimineoogaaDoorP24JudgeTells
import Derived.Test.YtmopbimineoogaaDoorP30JudgeTells
import Derived.Test.YtmopbimineoogaaDoorP33JudgeTells
import Derived.Test.YtmopbimineoogaaDoorP34JudgeTells
namespace Go.Proofs.YtmopbimineoogaaDoor.judgeTells
open Go.ChangeShapes Go.WideShapes Go.ChangeAt Go.RowKit
open Go.ChangeMaps (open_string shut_string)
set_option linter.unusedVariables false


/-- The last steps of n tasks. -/
def lastL (bs : List Bt) (n : Nat) : List Int := numL n (fun t => lastF bs (t : Int))

theorem bitsV_reads {F : Int} {n : Nat} {bs : List Bt} {w w' : World} {v : Value} (h : BitsV F n bs w w' v) (hn : n ≤ 1000000) : Reads w' v (if F = 0 then lastL bs n else []) := by
  rcases h with ⟨h0, rfl⟩ | ⟨h0, B, rfl, _, hN⟩
  · rw [if_neg h0]; exact .inl ⟨rfl, .inl rfl⟩
  · rw [if_pos h0]; exact hN.reads hn

set_option maxHeartbeats 16000000 in
set_option maxRecDepth 100000 in
theorem walk (v0 : Value) (l0 : PlanL) (a1 : Int) (v2 : Value) (l2 : List Bt) (v3 : Value) (l3 : List St) (w : World) (hglob : Glob w) (w0 : ArgPlan w v0 l0) (w1 : (Lit.int .i64 a1).wf = true) (w2 : InBits w v2 l2) (w3 : InStays w v3 l3) :
    Calls Tryd.prog 3 #[v0, .int .i64 a1, v2, v3] w fun e w' => e = .returned (.bool true) ∧ Below w.heap.size w w' := by
  have bd1 := bounds_i64 w1
  have HP := Lib.hid w0.2
  have HG := Lib.hid hglob
  have HB := Lib.hid w2
  have HS := Lib.hid w3
  have hR := ref_Right _ l0 w w0.2
  have hm2 : l2.length ≤ 9223372036854775807 := by have := w2.2.2; unfold maxLen at this; omega
  have hm3 : l3.length ≤ 9223372036854775807 := by have := w3.2.2.1; unfold maxLen at this; omega
  have HJE := Lib.hid (fun w' (ho : Only [] w w') => judge_Ends v0 v2 l0 a1 l2 w' (HP.out.same ho) (HB.out.same ho))
  have HJB := Lib.hid (fun w' (ho : Only [] w w') => judge_Bits v0 v2 l0 a1 l2 w' (HP.out.same ho) (HB.out.same ho))
  have HJS := Lib.hid (fun w' (ho : Only [] w w') => judge_Stays v0 v3 l0 a1 l3 w' (HP.out.same ho) (HS.out.same ho).2.1 hm3 HS.out.2.2.2)
  clear hglob w0 w1 w2 w3
  by_cases h0 : hErr l0 a1 = 0
  · obtain ⟨hok, h1, h6⟩ := hErr_zero h0
    have hpf := (planOk_iff l0).1 hok
    have HO := Lib.hid hok
    rw [hpf] at hR
    have HRB := Lib.hid (fun w' (ho : Only [] w w') => ref_Bits v0 v2 l0 a1 l2 w' (HP.out.same ho) HO.out (HB.out.same ho).2.1 hm2)
    have HRS := Lib.hid (fun w' (ho : Only [] w w') => ref_Stays v0 v3 l0 a1 l3 w' (HP.out.same ho) HO.out (HS.out.same ho).2.1 hm3)
    have hb0 : bitsErrH l0 a1 l2 = bitsErr l0 a1 l2 := by unfold bitsErrH; rw [if_neg (by simp [h0])]
    have hs0 : staysErrH l0 a1 l3 = staysErr l0 a1 l3 := by unfold staysErrH; rw [if_neg (by simp [h0])]
    rw [hb0] at HJE HJB
    rw [hs0] at HJS
    have hn30 := hok.len
    obtain ⟨eb, heb⟩ : ∃ x, bitsErr l0 a1 l2 = x := ⟨_, rfl⟩
    obtain ⟨es, hes⟩ : ∃ x, staysErr l0 a1 l3 = x := ⟨_, rfl⟩
    rw [heb] at HJE HJB HRB
    rw [hes] at HJS HRS
    clear h0 hpf hok hb0 hs0 heb hes
    obtain ⟨va, vc, rfl, _⟩ := HP.out.task
    obtain ⟨n, hn⟩ : ∃ n, l0.length = n := ⟨_, rfl⟩
    rw [hn] at hR HJE HJB HJS HRB HRS hn30 ⊢
    clear hn
    go_enter Tryd.func3, Tryd.ntmps3
    go_wp2_with fail
    refine hR.mono ?_
    rintro e w1 ⟨rfl, ho1⟩
    clear hR
    go_wp2_with fail
    refine (HRB.out w1 ho1).mono ?_
    rintro e w2 ⟨vb, rfl, hV2, ho2⟩
    have hrd2 := Lib.hid (bitsV_reads hV2 (by omega))
    have ho2 := ho1.trans ho2 (by simp)
    clear HRB hV2 ho1
    go_wp2_with fail
    refine (HJB.out w2 ho2).mono ?_
    rintro e w3 ⟨rfl, ho3⟩
    have hrd3 := Lib.hid (hrd2.out.same ho3)
    have ho3 := ho2.trans ho3 (by simp)
    have hg3 := HG.out.only ho3
    clear HJB hrd2 ho2
    go_wp2_with fail
    refine (same_errV eb w3 hg3).mono ?_
    rintro e w4 ⟨rfl, ho4⟩
    have hrd4 := Lib.hid (hrd3.out.same ho4)
    have ho4 := ho3.trans ho4 (by simp)
    clear hg3 hrd3 ho3
    go_wp2_with fail
    refine (HJE.out w4 ho4).mono ?_
    rintro e w5 ⟨vx, rfl, hV5, ho5⟩
    have hrd5 := Lib.hid (hrd4.out.same ho5)
    have hrx5 := Lib.hid (bitsV_reads hV5 (by omega))
    have ho5 := ho4.trans ho5 (by simp)
    have hg5 := HG.out.only ho5
    clear HJE hrd4 ho4 hV5
    go_wp2_with fail
    refine (same_errV eb w5 hg5).mono ?_
    rintro e w6 ⟨rfl, ho6⟩
    have hrd6 := hrd5.out.same ho6
    have hrx6 := hrx5.out.same ho6
    have ho6 := ho5.trans ho6 (by simp)
    have hsi := same_ints vx vb _ w6 hrx6 hrd6 (by split <;> simp [lastL, numL]; omega)
    clear hg5 hrd5 hrx5 ho5 hrd6 hrx6
    go_wp2_with fail
    refine hsi.mono ?_
    rintro e w7 ⟨rfl, d7, rfl⟩
    have ho7 := ho6.drewN d7
    clear hsi ho6
    obtain ⟨w7, hw7⟩ : ∃ w7, w6.drewN d7 = w7 := ⟨_, rfl⟩
    rw [hw7] at ho7 ⊢
    clear hw7
    go_wp2_with fail
    refine (HRS.out w7 ho7).mono ?_
    rintro e w8 ⟨rfl, ho8⟩
    have ho8 := ho7.trans ho8 (by simp)
    clear HRS ho7
    go_wp2_with fail
    refine (HJS.out w8 ho8).mono ?_
    rintro e w9 ⟨rfl, ho9⟩
    have ho9 := ho8.trans ho9 (by simp)
    have hg9 := HG.out.only ho9
    clear HJS ho8
    go_wp2_with fail
    refine (same_errV es w9 hg9).mono ?_
    rintro e wa ⟨rfl, hoa⟩
    have hoa := ho9.trans hoa (by simp)
    clear hg9 ho9
    go_wp2
    go_ret
    exact ⟨by rfl, hoa.below (Nat.le_refl _) (by simp)⟩
  · have hbH : bitsErrH l0 a1 l2 = hErr l0 a1 := by unfold bitsErrH; rw [if_pos h0]
    have hsH : staysErrH l0 a1 l3 = hErr l0 a1 := staysH_h h0
    rw [hbH] at HJE HJB
    rw [hsH] at HJS
    have hcs : Hid ((planFault l0 ≠ 0 ∧ hErr l0 a1 = planFault l0) ∨ (planFault l0 = 0 ∧ hErr l0 a1 = 1 ∧ (a1 < 1 ∨ (1 ≤ a1 ∧ 6 < a1)))) := by
      show _ ∨ _
      by_cases hp : planFault l0 = 0
      · right
        unfold hErr at h0 ⊢
        rw [if_pos hp] at h0 ⊢
        by_cases hh : 1 ≤ a1 ∧ a1 ≤ 6
        · rw [if_pos hh] at h0; exact absurd rfl h0
        · rw [if_neg hh]; exact ⟨hp, rfl, by omega⟩
      · left; exact ⟨hp, by unfold hErr; rw [if_neg hp]⟩
    obtain ⟨E, hE⟩ : ∃ E, hErr l0 a1 = E := ⟨_, rfl⟩
    obtain ⟨pf, hpf⟩ : ∃ pf, planFault l0 = pf := ⟨_, rfl⟩
    rw [hE] at hcs HJE HJB HJS h0
    rw [hpf] at hcs hR
    have hnil : ∀ w', Calls Tryd.prog 11 #[.slice none 0 0, .slice none 0 0] w' fun e w'' => e = .returned (.bool true) ∧ ∃ n, w'' = w'.drewN n := fun w' =>
      same_ints _ _ [] w' (.inl ⟨rfl, .inl rfl⟩) (.inl ⟨rfl, .inl rfl⟩) (by simp)
    have HNIL := Lib.hid hnil
    clear hnil hE hpf hbH hsH
    obtain ⟨va, vc, rfl, _⟩ := HP.out.task
    obtain ⟨n, hn⟩ : ∃ n, l0.length = n := ⟨_, rfl⟩
    rw [hn] at hR HJE HJB HJS ⊢
    clear hn
    rcases hcs.out with ⟨hp, rfl⟩ | ⟨rfl, rfl, hh | ⟨hh, hh2⟩⟩
    all_goals
      clear hcs
      try have hp0 : (E == 0) = false := by simpa using h0
      try clear hp
      have H0 := Lib.hid h0
      clear h0
      go_enter Tryd.func3, Tryd.ntmps3
      go_wp2_with fail
      refine hR.mono ?_
      rintro e w1 ⟨rfl, ho1⟩
      clear hR
      go_wp2_with fail
      refine (HJB.out w1 ho1).mono ?_
      rintro e w2 ⟨rfl, ho2⟩
      have ho2 := ho1.trans ho2 (by simp)
      have hg2 := HG.out.only ho2
      clear HJB ho1
      go_wp2_with fail
      refine (same_errV _ w2 hg2).mono ?_
      rintro e w3 ⟨rfl, ho3⟩
      have ho3 := ho2.trans ho3 (by simp)
      clear hg2 ho2
      go_wp2_with fail
      refine (HJE.out w3 ho3).mono ?_
      rintro e w4 ⟨vx, rfl, hV4, ho4⟩
      have ho4 := ho3.trans ho4 (by simp)
      have hg4 := HG.out.only ho4
      clear HJE ho3
      rcases hV4 with ⟨_, rfl⟩ | ⟨hx, _⟩
      rotate_left
      · exact absurd hx H0.out
      go_wp2_with fail
      refine (same_errV _ w4 hg4).mono ?_
      rintro e w5 ⟨rfl, ho5⟩
      have ho5 := ho4.trans ho5 (by simp)
      clear hg4 ho4
      go_wp2_with fail
      refine (HNIL.out w5).mono ?_
      rintro e w6 ⟨rfl, d6, rfl⟩
      have ho6 := ho5.drewN d6
      clear HNIL ho5
      obtain ⟨w6, hw6⟩ : ∃ w6, w5.drewN d6 = w6 := ⟨_, rfl⟩
      rw [hw6] at ho6 ⊢
      clear hw6
      go_wp2_with fail
      refine (HJS.out w6 ho6).mono ?_
      rintro e w7 ⟨rfl, ho7⟩
      have ho7 := ho6.trans ho7 (by simp)
      have hg7 := HG.out.only ho7
      clear HJS ho6
      go_wp2_with fail
      refine (same_errV _ w7 hg7).mono ?_
      rintro e w8 ⟨rfl, ho8⟩
      have ho8 := ho7.trans ho8 (by simp)
      clear hg7 ho7
      go_wp2
      go_ret
      exact ⟨by rfl, ho8.below (Nat.le_refl _) (by simp)⟩

end Go.Proofs.YtmopbimineoogaaDoor.judgeTells
