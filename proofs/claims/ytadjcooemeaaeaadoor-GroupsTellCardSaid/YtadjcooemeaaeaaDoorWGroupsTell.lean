/-
  The statement GroupsTell: what is wrong with any groups, whether any is gone, with any cancelled, and which tasks live. No condition but the listed variable's.
-/
import Derived.Test.YtadjcooemeaaeaaDoorFrame
import Derived.Test.YtadjcooemeaaeaaDoorTellFrame
import Derived.Test.YtadjcooemeaaeaaDoorLiveOk
import Derived.Test.YtadjcooemeaaeaaDoorLiveA
import Derived.Test.YtadjcooemeaaeaaDoorSGroups
import Derived.Test.YtadjcooemeaaeaaDoorRPlan
import Derived.Test.YtadjcooemeaaeaaDoorErrV
namespace Go.Proofs.YtadjcooemeaaeaaDoor.groupsTell
open Go.ChangeShapes Go.WideShapes Go.ChangeAt Go.RowKit
open Go.ChangeMaps (open_string shut_string)
set_option linter.unusedVariables false


/-- Whether one is gone, and groups with one cancelled, where that may be asked. -/
noncomputable def gAns (n : Nat) (P : Nat → Int) (C : Nat → Bool) (i : Int) : Bool := if grErr n P i = 0 then goneF P C i else false
def cAns (F : Int) (n : Nat) (P : Nat → Int) (C : Nat → Bool) (i : Int) (w : World) (v : Value) : Prop := if F = 0 then InGroups w v n P (cancel C i.toNat) else v = .slice none 0 0
theorem cAns_yes {n : Nat} {P : Nat → Int} {C : Nat → Bool} {i : Int} {w : World} {v : Value} (h : InGroups w v n P (cancel C i.toNat)) : cAns 0 n P C i w v := by unfold cAns; rw [if_pos rfl]; exact h
theorem cAns_no {F : Int} (hF : F ≠ 0) {n : Nat} {P : Nat → Int} {C : Nat → Bool} {i : Int} {w : World} : cAns F n P C i w (.slice none 0 0) := by unfold cAns; rw [if_neg hF]
theorem cAns_same {F : Int} {n : Nat} {P : Nat → Int} {C : Nat → Bool} {i : Int} {w w' : World} {v : Value} (h : cAns F n P C i w v) (ho : Only [] w w') : cAns F n P C i w' v := by
  unfold cAns at h ⊢
  split
  · rename_i e; rw [if_pos e] at h; exact Pairs.same h ho
  · rename_i e; rw [if_neg e] at h; exact h
theorem cAns_calls {F : Int} {n : Nat} {P : Nat → Int} {C : Nat → Bool} {i : Int} {w : World} {u v : Value} (hu : cAns F n P C i w u) (hv : cAns F n P C i w v) :
    Calls Tryd.prog 30 #[u, v] w fun e w' => e = .returned (.bool true) ∧ ∃ n, w' = w.drewN n := by
  unfold cAns at hu hv
  by_cases e : F = 0
  · rw [if_pos e] at hu hv; exact same_groups u v n P _ w hu hv
  · rw [if_neg e] at hu hv
    subst hu hv
    have h0 : InGroups w (.slice none 0 0) 0 P C := ⟨none, 0, rfl, by omega, by unfold maxLen; omega, fun _ => rfl, fun i hi => by omega⟩
    exact same_groups _ _ 0 P C w h0 h0

theorem gone_all (v : Value) (n : Nat) (P : Nat → Int) (C : Nat → Bool) (i : Int) (w : World) (h : InGroups w v n P C) :
    Calls Tryd.prog 28 #[v, .int .i64 i] w fun e w' => e = .returned (.tuple #[.bool (gAns n P C i), errV (grErr n P i)]) ∧ Only [] w w' := by
  unfold gAns
  by_cases e : grErr n P i = 0
  · obtain ⟨h12, ht, h0, hi⟩ := grErr_zero e
    rw [if_pos e, e, errV_zero]
    exact groups_Gone_ok v n P C (goneF P C) i w h h12 ht h0 hi (goneF_neg _ _) (fun k hk => goneF_step ht k hk)
  · rw [if_neg e, errV_ne e]
    exact groups_Gone_no v n P C i w h e

theorem cancel_all (v : Value) (n : Nat) (P : Nat → Int) (C : Nat → Bool) (i : Int) (w : World) (h : InGroups w v n P C) :
    Calls Tryd.prog 29 #[v, .int .i64 i] w fun e w' => ∃ v', e = .returned (.tuple #[v', errV (grErr n P i)]) ∧ cAns (grErr n P i) n P C i w' v' ∧ Only [] w w' := by
  by_cases e : grErr n P i = 0
  · obtain ⟨h12, ht, h0, hi⟩ := grErr_zero e
    rw [e, errV_zero]
    obtain ⟨k, rfl⟩ := Int.eq_ofNat_of_zero_le h0
    refine (groups_Cancel_ok v n P C k w h h12 ht (by omega)).mono ?_
    rintro e w' ⟨v', he, hO, ho⟩
    exact ⟨v', he, cAns_yes (by rw [Int.toNat_natCast]; exact hO.reads), ho⟩
  · rw [errV_ne e]
    refine (groups_Cancel_no v n P C i w h e).mono ?_
    rintro e' w' ⟨he, ho⟩
    exact ⟨_, he, cAns_no e, ho⟩

/-- The fault on the way, k of the list looked at. -/
def ofK (F : Int) (n : Nat) (of : List Int) (k : Nat) : Int := if F = 0 ∧ (of.take k).any (outOf n) = true then 1 else F
noncomputable def f1 (p : PlanL) (n : Nat) (P : Nat → Int) : Int := if planFault p = 0 then grpFault n P else planFault p
noncomputable def f2 (p : PlanL) (n : Nat) (P : Nat → Int) (of : List Int) : Int := if f1 p n P = 0 ∧ of.length ≠ p.length then 3 else f1 p n P
theorem ofK_zero (F : Int) (n : Nat) (of : List Int) : ofK F n of 0 = F := by simp [ofK]
theorem ofK_stop {F : Int} {n : Nat} {of : List Int} {k : Nat} (h : ofK F n of k ≠ 0) : ofK F n of k = ofK F n of of.length := by
  unfold ofK at h ⊢
  rw [List.take_length]
  by_cases e : F = 0
  · by_cases h1 : (of.take k).any (outOf n) = true
    · have h2 : of.any (outOf n) = true := by
        obtain ⟨x, hx, ho⟩ := List.any_eq_true.1 h1
        exact List.any_eq_true.2 ⟨x, List.mem_of_mem_take hx, ho⟩
      rw [if_pos ⟨e, h1⟩, if_pos ⟨e, h2⟩]
    · rw [if_neg (fun h3 => h1 h3.2)] at h
      exact absurd e h
  · rw [if_neg (fun h3 => e h3.1), if_neg (fun h3 => e h3.1)]
theorem ofK_step {F : Int} {n : Nat} {of : List Int} {k : Nat} (hk : k < of.length) (h : ofK F n of k = 0) : ofK F n of (k + 1) = if outOf n (nth of k) = true then 1 else 0 := by
  unfold ofK at h ⊢
  by_cases h1 : F = 0 ∧ (of.take k).any (outOf n) = true
  · rw [if_pos h1] at h; cases h
  · rw [if_neg h1] at h
    subst h
    have h2 : (of.take k).any (outOf n) = false := by
      cases e : (of.take k).any (outOf n) with
      | false => rfl
      | true => exact absurd ⟨rfl, e⟩ h1
    rw [take_succ_nth of k hk, List.any_append, h2]
    simp
theorem ofK_all (p : PlanL) (n : Nat) (P : Nat → Int) (of : List Int) : ofK (f2 p n P of) n of of.length = lErr p n P of := by
  unfold ofK lErr f2 f1
  rw [List.take_length]
  by_cases h1 : planFault p = 0
  · simp only [if_pos h1]
    by_cases h2 : grpFault n P = 0
    · simp only [if_pos h2, h2, true_and]
      by_cases h3 : of.length = p.length <;> by_cases h4 : of.any (outOf n) = true <;> simp [h3, h4]
    · simp only [if_neg h2, h2, false_and, if_false]
  · simp only [if_neg h1, h1, false_and, if_false]

set_option maxHeartbeats 16000000 in
set_option maxRecDepth 100000 in
theorem walk (v0 : Value) (l0 : List (Int × Bool)) (a1 : Int) (v2 : Value) (l2 : PlanL) (v3 : Value) (l3 : List Int) (w : World) (hglob : Glob w) (w0 : ArgGroups w v0 l0) (w1 : (Lit.int .i64 a1).wf = true) (w2 : ArgPlan w v2 l2) (w3 : InInts w v3 l3) :
    Calls Tryd.prog 6 #[v0, .int .i64 a1, v2, v3] w fun e w' => e = .returned (.bool true) ∧ Below w.heap.size w w' := by
  obtain ⟨hg, _⟩ := w0
  have bd1 := bounds_i64 w1
  have HP := Lib.hid w2.2
  have HO := Lib.hid w3
  have HOB := Lib.hid w3.bounds
  have HG := Lib.hid hglob
  clear hglob w1 w2 w3
  obtain ⟨n, hn⟩ : ∃ n, l0.length = n := ⟨_, rfl⟩
  rw [hn] at hg
  generalize (fun i : Nat => (l0[i]?.getD (0, false)).fst) = P at *
  generalize (fun i : Nat => (l0[i]?.getD (0, false)).snd) = C at *
  have HR := Lib.hid hg
  have hn9 := inGroups_len hg
  have hE := ref_Groups v0 n P C w hg
  have hK := groups_Check v0 n P C w hg
  have hS := same_errV (grpFault n P)
  obtain ⟨E, hEe⟩ : ∃ E, grpFault n P = E := ⟨_, rfl⟩
  have HE := Lib.hid hEe
  rw [hEe] at hE hK hS
  obtain ⟨ev, hev⟩ : ∃ ev, errV E = ev := ⟨_, rfl⟩
  rw [hev] at hK hS
  have HS := Lib.hid hS
  obtain ⟨ga, gcap, rfl, _, _, _, hgc⟩ := hg
  have HGC := Lib.hid hgc
  obtain ⟨pa, pcap, rfl, hpc1, hpc2, _⟩ := HP.out.task
  obtain ⟨m, hm⟩ : ∃ m, l2.length = m := ⟨_, rfl⟩
  have HM := Lib.hid hm
  have hm9 : m ≤ 9223372036854775807 := by unfold maxLen at hpc2; omega
  rw [hm] at HP ⊢
  obtain ⟨oa, oc, rfl, hoc⟩ := HO.out.opt
  obtain ⟨z, hz⟩ : ∃ z, l3.length = z := ⟨_, rfl⟩
  have HZ := Lib.hid hz
  have hz9 : z ≤ 9223372036854775807 := by have := HO.out.len; unfold maxLen at this; omega
  rw [hz] at hoc HO ⊢
  have HOC := Lib.hid hoc
  clear hn hEe hev hS hgc hm hz hoc
  go_enter Tryd.func6, Tryd.ntmps6
  go_wp2_with fail
  refine hE.mono ?_
  rintro e w1 ⟨rfl, hw1⟩
  subst hw1
  clear hE
  go_wp2_with fail
  refine hK.mono ?_
  rintro e w2 ⟨rfl, ho2⟩
  have hgl := HG.out.only ho2
  clear hK
  go_wp2_with fail
  refine (HS.out w2 hgl).mono ?_
  rintro e w3 ⟨rfl, ho3⟩
  have HO3 : Hid (Only [] w1 w3) := ho2.trans ho3 (by simp)
  clear ho2 ho3 hgl HS
  obtain ⟨F, hF⟩ : ∃ F, grErr n P a1 = F := ⟨_, rfl⟩
  obtain ⟨b1, hb1⟩ : ∃ b, decide (E = 0 ∧ ¬ (0 ≤ a1 ∧ a1 < (n : Int))) = b := ⟨_, rfl⟩
  have HFb : Hid (F = if b1 = true then 1 else E) := by
    show _ = _
    rw [← hF, ← hb1]
    unfold grErr
    rw [HE.out]
    by_cases h1 : E = 0
    · by_cases h2 : 0 ≤ a1 ∧ a1 < (n : Int)
      · simp [h1, h2]
      · rw [if_pos h1, if_neg h2, if_pos (by simp only [h1, true_and, decide_eq_true_eq]; exact h2)]
    · simp [h1]
  have HB1 := Lib.hid hb1
  have HF := Lib.hid hF
  clear hF hb1
  go_upto_region 4 with (fail)
  go_cut [47] (fun vc wx => vc = .bool b1 ∧ w3 = wx)
  case first =>
    as_aux_lemma =>
      by_cases hE0 : E = 0
      · subst hE0
        by_cases hi : 0 ≤ a1 ∧ a1 < (n : Int)
        · obtain ⟨hi0, hi1⟩ := hi
          have hb : Hid (b1 = false) := by show _ = _; rw [← HB1.out]; exact decide_eq_false (by omega)
          go_wp2
          go_meet
          exact ⟨congrArg Value.bool (by rw [hb.out]; first | done | rfl | (simp; done) | (simp; omega)), rfl⟩
        · have hi2 : a1 < 0 ∨ (0 ≤ a1 ∧ (n : Int) ≤ a1) := by omega
          clear hi
          rcases hi2 with h | ⟨h, h'⟩
          all_goals
            have hb : Hid (b1 = true) := by show _ = _; rw [← HB1.out]; exact decide_eq_true (by omega)
            go_wp2
            go_meet
            exact ⟨congrArg Value.bool (by rw [hb.out]; first | done | rfl | (simp; done) | (simp; omega)), rfl⟩
      · have hE1 : (E == 0) = false := by simpa using hE0
        have hb : Hid (b1 = false) := by show _ = _; rw [← HB1.out]; exact decide_eq_false (by omega)
        go_wp2
        go_meet
        exact ⟨congrArg Value.bool (by rw [hb.out]; first | done | rfl | (simp; done) | (simp; omega)), rfl⟩
  case rest =>
  obtain ⟨rfl, rfl⟩ := hcut
  go_upto_if 47 with (fail)
  go_cut [11] (fun vf wx => vf = .int .i64 F ∧ w3 = wx)
  case first =>
    as_aux_lemma =>
      cases b1
      · go_wp2
        go_meet
        exact ⟨by rw [HFb.out]; rfl, rfl⟩
      · go_wp2
        go_meet
        exact ⟨by rw [HFb.out]; rfl, rfl⟩
  case rest =>
  obtain ⟨rfl, rfl⟩ := hcut
  clear HFb HB1
  go_upto_if 49 with (fail)
  go_cut [12, 13] (fun vw vg wx => vg = .bool (gAns n P C a1) ∧ cAns F n P C a1 wx vw ∧ Only [] w3 wx)
  case first =>
    as_aux_lemma =>
      by_cases h0 : F = 0
      · subst h0
        obtain ⟨h12, ht, hi0, hin⟩ := grErr_zero HF.out
        obtain ⟨i, rfl⟩ := Int.eq_ofNat_of_zero_le hi0
        have hi : i < n := by omega
        have hInW := Pairs.same HR.out HO3.out
        have hq := ref_Gone _ n P C i w3 hInW ht (by omega) (by omega)
        have hga : Hid (gAns n P C (i : Int) = goneF P C (i : Int)) := by show _ = _; unfold gAns; rw [if_pos HF.out]
        obtain ⟨x, hx⟩ : ∃ x, goneF P C (i : Int) = x := ⟨_, rfl⟩
        have HX := Lib.hid hx
        rw [hx] at hq
        have hat := Lib.hid (InGroups.at hInW)
        clear ht hi0 hInW hx
        go_wp2_with fail
        refine hq.mono ?_
        rintro e w4 ⟨rfl, hw4⟩
        subst hw4
        clear hq
        go_wp2_with (at_builtin; refine wpList_append_rows sliceOf_groups rfl (.tmp 53) (.tmp 54) rfl w4 w4.heap.size _ 0 [] _ n _ (World.ownsRow_nil _ _ _ _) hat.out (by omega) (Nat.le_refl _) rfl rfl (Only.refl _ _) ?_; intro v5 w5 hI5 hO5 hK5; have hO6 : OwnGroups w5 w4.heap.size v5 n P C := (by unfold OwnGroups; simpa using hI5); have ho5 : Hid (Only [] w4 w5) := hO5.mono (by simp [own, Value.ownBlock]); obtain ⟨a6, c6, rfl, _, _, hgg6⟩ := Row.form hO6; obtain ⟨g6, rfl, hgb6, hgl6⟩ := hgg6 (by omega); obtain ⟨c60, c61, f6⟩ := OwnGroups.cells hO6 i hi)
        have hres := Lib.hid (OwnGroups.set hO6 i hi)
        have ho7 := Lib.hid (ho5.out.setCell (p := ⟨g6, i * 2 + 1, none⟩) (fun hlt => by simp at hlt; omega) (.bool true))
        clear hO6 ho5 hI5 hO5 hK5
        go_wp2
        go_meet
        exact ⟨by rw [hga.out, HX.out], cAns_yes (by rw [Int.toNat_natCast]; exact hres.out.reads), ho7.out⟩
      · have h1 : (F == 0) = false := by simpa using h0
        have H0 := Lib.hid h0
        clear h0
        go_wp2
        go_meet
        exact ⟨by unfold gAns; rw [if_neg (by rw [HF.out]; exact H0.out)], cAns_no H0.out, Only.refl _ _⟩
  case rest =>
  as_aux_lemma =>
    obtain ⟨rfl, hcw, hoc⟩ := hcut
    have HO4 : Hid (Only [] w1 wc) := HO3.out.trans hoc (by simp)
    have HCW := Lib.hid hcw
    have hGo := gone_all _ n P C a1 wc (Pairs.same HR.out HO4.out)
    have hCa := Lib.hid (fun w' (ho : Only [] wc w') => cancel_all _ n P C a1 w' (Pairs.same HR.out (HO4.out.trans ho (by simp))))
    have hS := same_errV F
    rw [HF.out] at hGo hCa
    obtain ⟨ev2, hev⟩ : ∃ ev, errV F = ev := ⟨_, rfl⟩
    rw [hev] at hGo hCa hS
    have HS := Lib.hid hS
    obtain ⟨gb, hgb⟩ : ∃ gb, gAns n P C a1 = gb := ⟨_, rfl⟩
    rw [hgb] at hGo ⊢
    clear hev hS hcw hoc hgb
    go_wp2_with fail
    refine hGo.mono ?_
    rintro e w5 ⟨rfl, ho5⟩
    have hgl := HG.out.only (HO4.out.trans ho5 (by simp))
    clear hGo
    go_wp2_with fail
    refine (HS.out w5 hgl).mono ?_
    rintro e w6 ⟨rfl, ho6⟩
    have ho6 := ho5.trans ho6 (by simp)
    have hCa6 := hCa.out w6 ho6
    clear ho5 hgl hCa
    go_wp2_with fail
    refine hCa6.mono ?_
    rintro e w7 ⟨v7, rfl, hc7, ho7⟩
    have ho7 := ho6.trans ho7 (by simp)
    have hgl := HG.out.only (HO4.out.trans ho7 (by simp))
    have HC7 := Lib.hid hc7
    clear hCa6 ho6 hc7
    go_wp2_with fail
    refine (HS.out w7 hgl).mono ?_
    rintro e w8 ⟨rfl, ho8⟩
    have hG8 := cAns_calls (cAns_same HC7.out ho8) (cAns_same HCW.out (ho7.trans ho8 (by simp)))
    have HO8 : Hid (Only [] w1 w8) := HO4.out.trans (ho7.trans ho8 (by simp)) (by simp)
    clear ho7 ho8 hgl HS HC7 HCW
    go_wp2_with fail
    refine hG8.mono ?_
    rintro e w9 ⟨rfl, d9, rfl⟩
    have HO9 := Lib.hid (HO8.out.drewN d9)
    clear hG8 HO8 HO4
    generalize w8.drewN d9 = w9 at *
    have hR := ref_Right _ l2 w9 (HP.out.same HO9.out)
    obtain ⟨pf, hpf⟩ : ∃ pf, planFault l2 = pf := ⟨_, rfl⟩
    have HPF := Lib.hid hpf
    rw [hpf] at hR
    clear hpf
    go_wp2_with fail
    refine hR.mono ?_
    rintro e wa ⟨rfl, hoa⟩
    have HOA : Hid (Only [] w1 wa) := HO9.out.trans hoa (by simp)
    clear hR hoa HO9
    obtain ⟨F1, hF1⟩ : ∃ F1, f1 l2 n P = F1 := ⟨_, rfl⟩
    have HF1 : Hid (F1 = if pf = 0 then E else pf) := by show _ = _; rw [← hF1]; unfold f1; rw [HPF.out, HE.out]
    obtain ⟨F2, hF2⟩ : ∃ F2, f2 l2 n P l3 = F2 := ⟨_, rfl⟩
    obtain ⟨b2, hb2⟩ : ∃ b2, decide (F1 = 0 ∧ z ≠ m) = b2 := ⟨_, rfl⟩
    have HF2 : Hid (F2 = if b2 = true then 3 else F1) := by
      show _ = _
      rw [← hF2, ← hb2]
      unfold f2
      rw [hF1, HZ.out, HM.out]
      simp only [decide_eq_true_eq]
    have HB2 := Lib.hid hb2
    have HLE : Hid (ofK F2 n l3 z = lErr l2 n P l3) := by
      show _ = _
      have := ofK_all l2 n P l3
      rw [hF2, HZ.out] at this
      exact this
    clear hF1 hF2 hb2
    go_upto_if 89 with (fail)
    go_cut [11] (fun vf wx => vf = .int .i64 F1 ∧ wa = wx)
    case first =>
      as_aux_lemma =>
        by_cases h0 : pf = 0
        · subst h0
          go_wp2
          go_meet
          exact ⟨by rw [HF1.out]; rfl, rfl⟩
        · have h1 : (pf == 0) = false := by simpa using h0
          have H0 := Lib.hid h0
          clear h0
          go_wp2
          go_meet
          exact ⟨by rw [HF1.out, if_neg H0.out], rfl⟩
    case rest =>
    obtain ⟨rfl, rfl⟩ := hcut
    go_upto_region 20 with (fail)
    go_cut [99] (fun vc wx => vc = .bool b2 ∧ wa = wx)
    case first =>
      as_aux_lemma =>
        clear HF1 HLE HF2
        by_cases h0 : F1 = 0
        · subst h0
          go_wp2
          go_meet
          refine ⟨congrArg Value.bool ?_, rfl⟩
          rw [← HB2.out]
          by_cases hzm : z = m
          · subst hzm; simp
          · have : ¬ ((z : Int) = (m : Int)) := by omega
            simp [hzm, this]
        · have h1 : (F1 == 0) = false := by simpa using h0
          have hb : Hid (b2 = false) := by show _ = _; rw [← HB2.out]; exact decide_eq_false (by omega)
          go_wp2
          go_meet
          exact ⟨congrArg Value.bool (by rw [hb.out]; first | done | rfl | (simp; done) | (simp; omega)), rfl⟩
    case rest =>
    obtain ⟨rfl, rfl⟩ := hcut
    go_upto_if 99 with (fail)
    go_cut [11] (fun vf wx => vf = .int .i64 F2 ∧ wa = wx)
    case first =>
      as_aux_lemma =>
        cases b2
        · go_wp2
          go_meet
          exact ⟨by rw [HF2.out]; rfl, rfl⟩
        · go_wp2
          go_meet
          exact ⟨by rw [HF2.out]; rfl, rfl⟩
    case rest =>
    obtain ⟨rfl, rfl⟩ := hcut
    clear HF2 HB2 HF1
    go_wp2_with fail
    go_loopw [11, 20] (fun vf vk wr => ∃ k : Nat, k ≤ z ∧ vk = .int .i64 k ∧ vf = .int .i64 (ofK F2 n l3 k) ∧ wa = wr) (fun _ vk _ => z - (intOf vk).toNat)
    case atStart => exact ⟨0, Nat.zero_le _, rfl, by rw [ofK_zero], rfl⟩
    case round =>
      obtain ⟨k, hk, rfl, rfl, rfl⟩ := hrel
      obtain ⟨G, hG⟩ : ∃ G, ofK F2 n l3 k = G := ⟨_, rfl⟩
      have HGk := Lib.hid hG
      obtain ⟨b3, hb3⟩ : ∃ b, decide (k < z ∧ G = 0) = b := ⟨_, rfl⟩
      have HB3 := Lib.hid hb3
      rw [hG]
      clear hG hb3
      go_upto_region 23 with (fail)
      go_cut [107] (fun vc wx => vc = .bool b3 ∧ wa = wx)
      case first =>
        as_aux_lemma =>
          by_cases hk2 : k < z
          · by_cases h0 : G = 0
            · subst h0
              go_wp2
              go_meet
              exact ⟨congrArg Value.bool (by rw [← HB3.out]; simp [hk2]), rfl⟩
            · have h1 : (G == 0) = false := by simpa using h0
              go_wp2
              go_meet
              exact ⟨congrArg Value.bool (by rw [← HB3.out, decide_eq_false (fun h => h0 h.2)]), rfl⟩
          · go_wp2
            go_meet
            exact ⟨congrArg Value.bool (by rw [← HB3.out, decide_eq_false (fun h => hk2 h.1)]), rfl⟩
      case rest =>
      obtain ⟨rfl, rfl⟩ := hcut
      cases b3
      · have hend : Hid (G = lErr l2 n P l3) := by
          show _ = _
          have h1 := HB3.out
          rw [decide_eq_false_iff_not] at h1
          rw [← HLE.out, ← HGk.out]
          by_cases h2 : k = z
          · rw [h2]
          · have h3 : ofK F2 n l3 k ≠ 0 := fun h => h1 ⟨by omega, by rw [← HGk.out]; exact h⟩
            have := ofK_stop h3
            rw [HZ.out] at this
            exact this
        clear HB3 HGk HLE
        by_cases h0 : G = 0
        · subst h0
          obtain ⟨hok, h12, ht, hlen, hany⟩ := lErr_zero hend.out.symm
          have hLv := Lib.hid (fun w' (ho : Only [] w1 w') => groups_Live _ _ _ l2 n P C l3 w' (HP.out.same ho) (Pairs.same HR.out ho) (HO.out.only ho).reads hend.out.symm)
          have hAb := ref_Above _ l2 wa (HP.out.same HOA.out) (needsOk hok.len hok.fault)
          rw [HM.out] at hAb hLv
          have hzm : m = z := by rw [← HZ.out, ← HM.out]; exact hlen.symm
          subst hzm
          have h30 : m ≤ 30 := by rw [← HM.out]; exact hok.len
          have hin : Hid (∀ q, q < m → 0 ≤ nth l3 q ∧ nth l3 q < (n : Int)) := by
            show ∀ q, _
            intro q hq
            have hql : q < l3.length := by rw [HZ.out]; omega
            have h1 : ¬ (l3.any (outOf n) = true) := by simp [hany]
            rw [List.any_eq_true] at h1
            by_cases e : outOf n (nth l3 q) = true
            · exact absurd ⟨nth l3 q, by simp [nth, hql], e⟩ h1
            · simp [outOf] at e; omega
          have HT := Lib.hid ht
          have HOK := Lib.hid hok
          obtain ⟨B, hB⟩ : ∃ B, (fun i => !goneF P C (nth l3 i)) = B := ⟨_, rfl⟩
          have HBq : Hid (∀ q, B q = !goneF P C (nth l3 q)) := fun q => by rw [← hB]
          rw [hB] at hLv
          clear hok ht hlen hany hB hk
          go_wp2_with fail
          refine hAb.mono ?_
          rintro e wb ⟨vt, g, rfl, hTb, hob⟩
          have HOB2 : Hid (Only [] w1 wb) := HOA.out.trans hob (by simp)
          obtain ⟨ta, tc, rfl, _, _, hta⟩ := hTb.form
          have HTb := Lib.hid hTb
          have HTA := Lib.hid hta
          clear hAb hob hTb hta
          go_wp2_with fail
          go_loopw [21, 23, 24, 25] (fun vl vk _ _ wr => ∃ q : Nat, q ≤ m ∧ vk = .int .i64 q ∧ OwnB wr wb.heap.size vl q (liveF l2 B) ∧ Only [] wb wr) (fun _ vk _ _ _ => m - (intOf vk).toNat)
          case atStart => exact ⟨0, Nat.zero_le _, rfl, World.ownsRow_nil _ _ _ _, Only.refl _ _⟩
          case round =>
            obtain ⟨wo, rfl⟩ : ∃ wo : World, wo = wr := ⟨_, rfl⟩
            obtain ⟨q, hq, rfl, hOw, hoo⟩ := hrel
            have HOO : Hid (Only [] w1 wo) := HOB2.out.trans hoo (by simp)
            by_cases hqm : q < m
            · obtain ⟨hx0, hx1⟩ := hin.out q hqm
              obtain ⟨ob, oo, rfl, hox⟩ := HOC.out q (by omega)
              have cx := ((HOO.out).cell (p := ⟨ob, oo + q, none⟩) (cell_lt hox) (by simp)).trans hox
              have hGn := ref_Gone _ n P C (nth l3 q) wo (Pairs.same HR.out HOO.out) HT.out (by omega) hx1
              have hBx := HBq.out q
              obtain ⟨x, hx⟩ : ∃ x, nth l3 q = x := ⟨_, rfl⟩
              rw [hx] at cx hGn hBx hx0 hx1
              obtain ⟨gx, hgx⟩ : ∃ gx, goneF P C x = gx := ⟨_, rfl⟩
              rw [hgx] at hGn hBx
              have HBX := Lib.hid hBx
              obtain ⟨A, rfl, _⟩ := HTA.out (by omega)
              have hTo := HTb.out.same hoo
              have cq := hTo.cellRow q hqm
              have HQB := Lib.hid (hTo.bools q hqm)
              have HOw := Lib.hid hOw
              have hso := hoo.size
              have HOo := Lib.hid hoo
              obtain ⟨va, vc, rfl, _⟩ := Row.form hOw
              clear hx hgx hBx hTo hox hOw hoo
              go_wp2_with fail
              refine hGn.mono ?_
              rintro e w5 ⟨rfl, hw5⟩
              subst hw5
              clear hGn cx
              go_wp2_with fail
              go_loopw [24, 25] (fun vo vm wr => ∃ r : Nat, r ≤ m ∧ vm = .int .i64 r ∧ (∃ ov, vo = .bool ov ∧ ov = okM l2 B q r) ∧ w5 = wr) (fun _ vm _ => m - (intOf vm).toNat)
              case atStart => exact ⟨0, Nat.zero_le _, rfl, ⟨_, rfl, by rw [okM_zero, HBX.out]⟩, rfl⟩
              case round =>
                obtain ⟨r, hr, rfl, ⟨ov, rfl, hov⟩, rfl⟩ := hrel
                have HOV := Lib.hid hov
                clear hov
                by_cases hrm : r < m
                · obtain ⟨hy0, hy1⟩ := hin.out r hrm
                  obtain ⟨ob2, oo2, e, hoy⟩ := HOC.out r (by omega)
                  injection e with e
                  injection e with e1 e2
                  subst e1 e2
                  have cy := ((HOO.out).cell (p := ⟨ob, oo + r, none⟩) (cell_lt hoy) (by simp)).trans hoy
                  have hGn := ref_Gone _ n P C (nth l3 r) w5 (Pairs.same HR.out HOO.out) HT.out (by omega) hy1
                  have hBy := HBq.out r
                  have cb := (HQB.out r hrm).1
                  have hsu := okM_succ l2 B q r
                  obtain ⟨y, hy⟩ : ∃ y, nth l3 r = y := ⟨_, rfl⟩
                  rw [hy] at cy hGn hBy hy0 hy1
                  obtain ⟨gy, hgy⟩ : ∃ gy, goneF P C y = gy := ⟨_, rfl⟩
                  rw [hgy] at hGn hBy
                  obtain ⟨ab, hab⟩ : ∃ ab, aboveOf l2 q r = ab := ⟨_, rfl⟩
                  rw [hab] at cb hsu
                  rw [hBy, ← HOV.out] at hsu
                  have HSU := Lib.hid hsu
                  clear hy hgy hBy hab hsu hoy
                  cases ab
                  · have hE : Hid (ov = okM l2 B q (r + 1)) := by show _ = _; rw [HSU.out]; simp
                    clear hGn
                    go_wp2
                    go_roundw
                    case rel => exact ⟨r + 1, by omega, by go_num, ⟨_, rfl, hE.out⟩, trivial⟩
                    case measure => (simp [intOf]; try omega)
                  · cases gy
                    · have hE : Hid (ov = okM l2 B q (r + 1)) := by show _ = _; rw [HSU.out]; simp
                      go_wp2_with fail
                      refine hGn.mono ?_
                      rintro e w6 ⟨rfl, hw6⟩
                      subst hw6
                      clear hGn
                      go_wp2
                      go_roundw
                      case rel => exact ⟨r + 1, by omega, by go_num, ⟨_, rfl, hE.out⟩, trivial⟩
                      case measure => (simp [intOf]; try omega)
                    · have hE : Hid (false = okM l2 B q (r + 1)) := by show _ = _; rw [HSU.out]; simp
                      go_wp2_with fail
                      refine hGn.mono ?_
                      rintro e w6 ⟨rfl, hw6⟩
                      subst hw6
                      clear hGn
                      go_wp2
                      go_roundw
                      case rel => exact ⟨r + 1, by omega, by go_num, ⟨_, rfl, hE.out⟩, trivial⟩
                      case measure => (simp [intOf]; try omega)
                · obtain rfl : r = m := by omega
                  have hlv : Hid (ov = liveF l2 B q) := by
                    show _ = _
                    rw [HOV.out]
                    have := okM_all HOK.out B q (by rw [HM.out]; exact hqm)
                    rw [HM.out] at this
                    exact this
                  have hone : Hid (RowAt (w5.alloc (.cells #[.bool ov] 4)) (.slice (some ⟨w5.heap.size, 0, none⟩) 1 1) 1 1 [.bool ov]) :=
                    RowAt.one (cs := #[.bool ov]) (heap_alloc_new _ _) rfl (by intro y hy; simp at hy; subst hy; rfl)
                  clear cq HOV
                  go_wp2_with (at_builtin; refine wpList_append_rows sliceOf_bools rfl (.tmp 162) (.tmp 164) rfl w5 wb.heap.size _ q _ _ 1 _ HOw.out hone.out (by omega) hso rfl rfl ((Only.refl [] w5).alloc _) ?_; intro v' w' hI hOn hK)
                  have hO2 : Hid (OwnB w' wb.heap.size v' (q + 1) (liveF l2 B)) := by
                    show OwnB _ _ _ _ _
                    unfold OwnB
                    rw [← boolL_push, ← hlv.out]
                    exact hI
                  have ho3 : Hid (Only [] wb w') := HOo.out.trans hOn (fun x hx hl => by have := (Row.far HOw.out x hx).1; omega)
                  clear hI hOn hK
                  go_wp2
                  go_roundw
                  case rel => exact ⟨q + 1, by omega, by go_num, hO2.out, ho3.out⟩
                  case measure => (simp [intOf]; try omega)
            · obtain rfl : q = m := by omega
              have hLo := hLv.out wo HOO.out
              have HOw := Lib.hid (OwnB.rowB hOw)
              obtain ⟨va, vc, rfl, _⟩ := Row.form hOw
              clear hLv hOw hqm
              go_wp2_with fail
              refine hLo.mono ?_
              rintro e w5 ⟨A5, rfl, hB5, _, _, ho5⟩
              have HB5 := Lib.hid hB5
              have HO5 : Hid (Only [] w1 w5) := HOO.out.trans ho5 (by simp)
              have HW5 := Lib.hid (HOw.out.same ho5)
              clear hLo hB5 ho5
              go_wp2_with fail
              refine (same_nil 0 _ true rfl).mono ?_
              rintro e w6 ⟨rfl, rfl⟩
              have hSB := same_bools _ _ q (liveF l2 B) w5 HB5.out.rowB HW5.out (by omega)
              go_wp2_with fail
              refine hSB.mono ?_
              rintro e w7 ⟨rfl, d7, rfl⟩
              clear hSB
              go_wp2
              go_ret
              exact ⟨by rfl, (HO5.out.drewN d7).below (Nat.le_refl _) (by simp)⟩
        · have hG1 : (G == 0) = false := by simpa using h0
          have hLn := groups_Live_no _ _ _ l2 n P C l3 wa (HP.out.same HOA.out) (Pairs.same HR.out HOA.out) (HO.out.only HOA.out).reads (by rw [← hend.out]; exact h0)
          rw [← hend.out] at hLn
          clear hk
          go_wp2_with fail
          refine hLn.mono ?_
          rintro e w5 ⟨rfl, ho5⟩
          have ho5 := HOA.out.trans ho5 (by simp)
          have hgl := HG.out.only ho5
          clear hLn
          go_wp2_with fail
          refine (same_err G G _ hgl true (by simp)).mono ?_
          rintro e w6 ⟨rfl, ho6⟩
          have ho6 := ho5.trans ho6 (by simp)
          have hSB := same_bools _ _ 0 (fun _ => false) w6 (RowB.nil _ _) (RowB.nil _ _) (by omega)
          go_wp2_with fail
          refine hSB.mono ?_
          rintro e w7 ⟨rfl, d7, rfl⟩
          clear hSB
          go_wp2
          go_ret
          exact ⟨by rfl, (ho6.drewN d7).below (Nat.le_refl _) (by simp)⟩
      · have hkz := of_decide_eq_true HB3.out
        obtain ⟨hk2, h0⟩ := hkz
        have hst := ofK_step (F := F2) (n := n) (of := l3) (k := k) (by rw [HZ.out]; exact hk2) (by rw [HGk.out]; exact h0)
        obtain ⟨ob, oo, rfl, hox⟩ := HOC.out k hk2
        have cx := ((HOA.out).cell (p := ⟨ob, oo + k, none⟩) (cell_lt hox) (by simp)).trans hox
        have hxb := HOB.out (nth l3 k) (by unfold nth; rw [List.getElem?_eq_getElem (by rw [HZ.out]; exact hk2)]; exact List.getElem_mem _)
        obtain ⟨x, hx⟩ : ∃ x, nth l3 k = x := ⟨_, rfl⟩
        rw [hx] at cx hst hxb
        have HST := Lib.hid hst
        subst h0
        clear hst hox hx HB3 hk
        by_cases hbad : x < 0 ∨ (n : Int) ≤ x
        · have hov : Hid (outOf n x = true) := by show _ = _; unfold outOf; simp; omega
          rcases (show x < 0 ∨ (0 ≤ x ∧ (n : Int) ≤ x) by omega) with h | ⟨h, h'⟩
          all_goals
            clear hbad
            go_wp2
            go_roundw
            case rel => exact ⟨k + 1, by omega, by go_num, by rw [HST.out, hov.out]; rfl, trivial⟩
            case measure => (simp [intOf]; try omega)
        · have hov : Hid (outOf n x = false) := by show _ = _; unfold outOf; simp; omega
          have h1 : ¬ x < 0 := by omega
          have h2 : ¬ (n : Int) ≤ x := by omega
          clear hbad
          go_wp2
          go_roundw
          case rel => exact ⟨k + 1, by omega, by go_num, by rw [HST.out, hov.out]; rfl, trivial⟩
          case measure => (simp [intOf]; try omega)

end Go.Proofs.YtadjcooemeaaeaaDoor.groupsTell
