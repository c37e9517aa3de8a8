/-
  The statement PlanTells: which task of any plan is wrong, and how; its order, who comes after any; as text, any text as one. Where what it reads is of bulk at most 1048576 (and the listed variables).
-/
import Derived.Test.YtoofalchkedciaaGreatDoorP1PlanTells
import Derived.Test.YtoofalchkedciaaGreatDoorP3PlanTells
import Derived.Test.YtoofalchkedciaaGreatDoorP2PlanTells
import Derived.Test.YtoofalchkedciaaGreatDoorP15PlanTells
import Derived.Test.YtoofalchkedciaaGreatDoorP18PlanTells
import Derived.Test.YtoofalchkedciaaGreatDoorP19PlanTells
import Derived.Test.YtoofalchkedciaaGreatDoorP21PlanTells
import Derived.Test.YtoofalchkedciaaGreatDoorP22PlanTells
import Derived.Test.YtoofalchkedciaaGreatDoorP25PlanTells
import Derived.Test.YtoofalchkedciaaGreatDoorP34PlanTells
import Derived.Test.YtoofalchkedciaaGreatDoorP33PlanTells
import Derived.Test.YtoofalchkedciaaGreatDoorP43PlanTells
import Derived.Test.YtoofalchkedciaaGreatDoorP44PlanTells
import Derived.Test.YtoofalchkedciaaGreatDoorP38PlanTells
import Derived.Test.YtoofalchkedciaaGreatDoorP42PlanTells
namespace Go.Proofs.YtoofalchkedciaaGreatDoor.planTells
open Go.ChangeShapes Go.WideShapes Go.ChangeAt Go.RowKit
open Go.ChangeMaps (open_string shut_string)
set_option linter.unusedVariables false


/-- The plan that a text is read as: none, where it is wrong. -/
noncomputable def parsedP (l : List UInt8) : PlanL := if parseF l = 0 then (readP l).getD [] else []
theorem parsed_some {l : List UInt8} {p : PlanL} (h : readP l = some p) (hf : planFault p = 0) : parseF l = 0 ∧ parsedP l = p := by
  have h1 : parseF l = 0 := (parseF_some h).trans hf
  refine ⟨h1, ?_⟩
  unfold parsedP
  rw [if_pos h1, h]
  rfl
theorem parsed_none {l : List UInt8} (h : parseF l ≠ 0) : parsedP l = [] := if_neg h
theorem parsed_few (l : List UInt8) : (parsedP l).length ≤ 1000 ∧ ∀ i, i < (parsedP l).length → (ndOf (parsedP l) i).length ≤ 1000000 := by
  by_cases h : parseF l = 0
  · cases hr : readP l with
    | none => rw [parseF_none hr] at h; cases h
    | some p =>
      have hf : planFault p = 0 := (parseF_some hr).symm.trans h
      rw [(parsed_some hr hf).2]
      have hok := (planOk_iff p).2 hf
      have h30 := hok.len
      exact ⟨by omega, fun i hi => by have := hok.needs i; omega⟩
  · rw [parsed_none h]
    exact ⟨by simp, fun i hi => by simp at hi⟩
theorem RReadOut.form {w w' : World} {l : List UInt8} {e : Ending} (h : RReadOut w l e w') : Only [] w w' ∧ ∃ a c, e = .returned (.tuple #[.slice a (parsedP l).length c, .int .i64 (parseF l)]) ∧ InPlan w' (.slice a (parsedP l).length c) (parsedP l) := by
  obtain ⟨ho, h⟩ := h
  refine ⟨ho, ?_⟩
  rcases h with ⟨h1, h2⟩ | ⟨a, c, p, h1, h2, h3, h4⟩
  · rw [parsed_none h1]
    exact ⟨none, 0, h2, (OwnPlan.nil w' 0 (fun _ => False)).plan⟩
  · obtain ⟨k1, k2⟩ := parsed_some h2 h3
    rw [k1, k2]
    exact ⟨a, c, h1, h4⟩
theorem ParseOut.form {w w' : World} {l : List UInt8} {e : Ending} (h : ParseOut w l e w') : Only [] w w' ∧ ∃ a c, e = .returned (.tuple #[.slice a (parsedP l).length c, errV (parseF l)]) ∧ InPlan w' (.slice a (parsedP l).length c) (parsedP l) := by
  obtain ⟨ho, h⟩ := h
  refine ⟨ho, ?_⟩
  rcases h with ⟨h1, h2⟩ | ⟨a, c, p, h1, h2, h3, h4⟩
  · rw [parsed_none h1]
    exact ⟨none, 0, h2, (OwnPlan.nil w' 0 (fun _ => False)).plan⟩
  · obtain ⟨k1, k2⟩ := parsed_some h2 h3
    rw [k1, k2]
    exact ⟨a, c, h1, h4⟩

set_option maxRecDepth 100000 in
set_option maxHeartbeats 8000000 in
theorem walk (v0 : Value) (l0 : PlanL) (a1 : Int) (a2 : ByteArray) (w : World) (hmax : ∃ m, w.cell? ⟨4, 0, none⟩ = some (.int .i64 m)) (htab : Lib.TabIs Tryz.prog w "internal/strconv.uint64pow10" .u64 Lib.pow10Tab) (hglob : Glob w) (hrange : VarErr "strconv.ErrRange" w) (hsyn : VarErr "strconv.ErrSyntax" w) (w0 : ArgPlan w v0 l0) (w1 : (Lit.int .i64 a1).wf = true) (w2 : a2.size ≤ 1048576) :
    Calls Tryz.prog 3 #[v0, .int .i64 a1, .string a2] w fun e w' => e = .returned (.bool true) ∧ Below w.heap.size w w' := by
  have hstd : Std w := ⟨hsyn, hrange, htab, hmax⟩
  have HSTD := Lib.hid hstd
  have HG := Lib.hid (fun (W : World) (hW : Only [] w W) => hglob.only hW)
  have bd := bounds_i64 w1
  obtain ⟨hfit, hp⟩ := w0
  obtain ⟨a, cap, rfl, hc1, hc2, _⟩ := hp.task
  obtain ⟨n, hn⟩ : ∃ n, l0.length = n := ⟨_, rfl⟩
  have HN := Lib.hid hn
  rw [hn] at hc1 hp ⊢
  have HP := Lib.hid (fun (W : World) (hW : Only [] w W) => hp.same hW)
  have HPARSE := Lib.hid (fun (W : World) (hW : Only [] w W) => (plan_Parse a2 (by omega) W (hstd.only hW)).mono fun e w' h => ParseOut.form h)
  have HREAD := Lib.hid (fun (W : World) => (ref_Read a2 (by omega) W).mono fun e w' h => RReadOut.form h)
  have HSAME := Lib.hid (fun (W : World) (u v : Value) (hu : InPlan W u (parsedP a2.data.toList)) (hv : InPlan W v (parsedP a2.data.toList)) => same_plan u v _ W hu hv (parsed_few _).1 (parsed_few _).2)
  generalize parseF a2.data.toList = PF at *
  generalize parsedP a2.data.toList = PP at *
  obtain ⟨PN, hPN⟩ : ∃ PN, PP.length = PN := ⟨_, rfl⟩
  rw [hPN] at HPARSE HREAD
  have hpl := ref_Plan _ l0 w hp
  have HCK := Lib.hid (fun (W : World) (hW : Only [] w W) => plan_Check _ l0 W (hp.same hW))
  have HF : Hid ((planCheck l0).2 = planFault l0) := rfl
  obtain ⟨X, hX⟩ : ∃ X, (planCheck l0).1 = X := ⟨_, rfl⟩
  obtain ⟨f, hf⟩ : ∃ f, planFault l0 = f := ⟨_, rfl⟩
  rw [HF.out, hf, hX] at hpl HCK
  have HFF := Lib.hid hf
  have HO := Lib.hid (Only.refl [] w)
  clear hmax htab hrange hsyn hstd hglob hfit hp hn hPN hX hf
  by_cases hf0 : f = 0
  · subst hf0
    have hok := (planOk_iff l0).2 HFF.out
    have HOK := Lib.hid hok
    have h30 := hok.len
    have hol := order_len hok
    rw [HN.out] at h30 hol
    have HORD := Lib.hid (fun (W : World) (hW : Only [] w W) => ref_Order _ l0 W (HP.out W hW) hok)
    have HTXT := Lib.hid (fun (W : World) (hW : Only [] w W) => ref_Text _ l0 W (HP.out W hW) hok)
    have HPORD := Lib.hid (fun (W : World) (hW : Only [] w W) => plan_Order_ok _ l0 W (HP.out W hW) hok)
    have HPRN := Lib.hid (fun (W : World) (hW : Only [] w W) => plan_Print _ l0 W (HP.out W hW) HFF.out)
    have HRAF := Lib.hid (fun (W : World) (hW : Only [] w W) => ref_After _ l0 a1 W (HP.out W hW) hok)
    have HPAF := Lib.hid (fun (W : World) (hW : Only [] w W) (h0 : 0 ≤ a1) (h1 : a1 < l0.length) => plan_After_ok _ l0 a1 W (HP.out W hW) hok h0 h1)
    have HPAO := Lib.hid (fun (W : World) (hW : Only [] w W) (h0 : a1 < 0 ∨ (l0.length : Int) ≤ a1) => plan_After_out _ l0 a1 W (HP.out W hW) hok h0)
    obtain ⟨T, hT⟩ : ∃ T : ByteArray, (⟨(textP l0).toArray⟩ : ByteArray) = T := ⟨_, rfl⟩
    rw [hT] at HTXT HPRN
    have hself : (T.toList == T.toList) = true := beq_self_eq_true _
    obtain ⟨OL, hOL⟩ : ∃ OL, natL (orderOf l0) = OL := ⟨_, rfl⟩
    have HOLN : Hid (OL.length = n) := by show _ = _; rw [← hOL, natL_len, hol]
    rw [hOL] at HORD HPORD
    have hafl := afterOf_len l0 a1
    obtain ⟨AL, hAL⟩ : ∃ AL, natL (afterOf l0 a1) = AL := ⟨_, rfl⟩
    obtain ⟨z, hz⟩ : ∃ z, (afterOf l0 a1).length = z := ⟨_, rfl⟩
    have HALN : Hid (AL.length = z) := by show _ = _; rw [← hAL, natL_len, hz]
    rw [hz, HN.out] at hafl
    rw [hAL, hz] at HPAF
    rw [hAL] at HRAF
    rw [HN.out] at HPAF HPAO
    rw [errV_zero] at HCK
    clear hok hT hOL hol hAL hz
    go_enter Tryz.func3, Tryz.ntmps3
    go_wp2_with fail
    refine hpl.mono ?_
    rintro e w20 ⟨rfl, ho⟩
    have HOw20 := Lib.hid (HO.out.trans ho (by simp))
    clear hpl ho
    have hc := HCK.out w20 HOw20.out
    go_wp2_with fail
    refine hc.mono ?_
    rintro e w21 ⟨rfl, ho⟩
    have HOw21 := Lib.hid (HOw20.out.trans ho (by simp))
    clear hc
    clear ho
    have hc := same_nil 0 w21 true rfl
    go_wp2_with fail
    refine hc.mono ?_
    rintro e w22 ⟨rfl, hw⟩
    have HEw22 : Hid (Only [] w21 w22) := by
      show Only _ _ _
      rw [← hw]
      exact Only.refl _ _
    have HOw22 := Lib.hid (HOw21.out.trans HEw22.out (by simp))
    clear hc hw
    have hc := HORD.out w22 HOw22.out
    go_wp2_with fail
    refine hc.mono ?_
    rintro e w23 ⟨vr, rfl, hI, ho⟩
    have HOw23 := Lib.hid (HOw22.out.trans ho (by simp))
    clear hc
    obtain ⟨ra1, rc1, rfl, _⟩ := hI.opt
    rw [HOLN.out] at hI ⊢
    have HI1 := Lib.hid hI
    clear ho hI
    have hc := HTXT.out w23 HOw23.out
    go_wp2_with fail
    refine hc.mono ?_
    rintro e w24 ⟨rfl, ho⟩
    have HOw24 := Lib.hid (HOw23.out.trans ho (by simp))
    clear hc
    have HI2 := Lib.hid (Ints.only HI1.out ho (by simp))
    clear ho HI1
    have hc := HPORD.out w24 HOw24.out
    go_wp2_with fail
    refine hc.mono ?_
    rintro e w25 ⟨vo, rfl, hI, ho⟩
    have HOw25 := Lib.hid (HOw24.out.trans ho (by simp))
    clear hc
    obtain ⟨oa1, oc1, rfl, _⟩ := hI.opt
    rw [HOLN.out] at hI ⊢
    have HI3 := Lib.hid (Ints.only HI2.out ho (by simp))
    have HJ3 := Lib.hid hI
    clear ho hI HI2
    have hc := same_nil 0 w25 true rfl
    go_wp2_with fail
    refine hc.mono ?_
    rintro e w26 ⟨rfl, hw⟩
    have HEw26 : Hid (Only [] w25 w26) := by
      show Only _ _ _
      rw [← hw]
      exact Only.refl _ _
    have HOw26 := Lib.hid (HOw25.out.trans HEw26.out (by simp))
    clear hc hw
    have HI4 := Lib.hid (Ints.only HI3.out HEw26.out (by simp))
    have HJ4 := Lib.hid (Ints.only HJ3.out HEw26.out (by simp))
    clear HI3 HJ3
    have hc := same_ints (.slice oa1 n oc1) (.slice ra1 n rc1) OL w26 (HJ4.out.reads) (HI4.out.reads) (by rw [HOLN.out]; omega)
    go_wp2_with fail
    refine hc.mono ?_
    rintro e w27 ⟨rfl, dn, hw⟩
    have HOw27 : Hid (Only [] w w27) := by
      show Only _ _ _
      rw [hw]
      exact HOw26.out.drewN dn
    clear hc hw
    have hc := HPRN.out w27 HOw27.out
    go_wp2_with fail
    refine hc.mono ?_
    rintro e w28 ⟨rfl, ho⟩
    have HOw28 := Lib.hid (HOw27.out.trans ho (by simp))
    clear hc
    clear ho
    have hc := same_nil 0 w28 true rfl
    go_wp2_with fail
    refine hc.mono ?_
    rintro e w29 ⟨rfl, hw⟩
    have HEw29 : Hid (Only [] w28 w29) := by
      show Only _ _ _
      rw [← hw]
      exact Only.refl _ _
    have HOw29 := Lib.hid (HOw28.out.trans HEw29.out (by simp))
    clear hc hw
    by_cases hr1 : a1 < 0
    · skip
      have hc := HPAO.out w29 HOw29.out (.inl hr1)
      go_wp2_with fail
      refine hc.mono ?_
      rintro e w30 ⟨rfl, ho⟩
      have HOw30 := Lib.hid (HOw29.out.trans ho (by simp))
      clear hc
      clear ho
      have hc := same_errV 1 w30 (HG.out w30 HOw30.out)
      go_wp2_with fail
      refine hc.mono ?_
      rintro e w31 ⟨rfl, ho⟩
      have HEw31 := Lib.hid ho
      have HOw31 := Lib.hid (HOw30.out.trans ho (by simp))
      clear hc ho
      have hc := same_ints (.slice none 0 0) (.slice none 0 0) [] w31 (Ints.nil w31 0).reads (Ints.nil w31 0).reads (by simp)
      go_wp2_with fail
      refine hc.mono ?_
      rintro e w32 ⟨rfl, dn, hw⟩
      have HOw32 : Hid (Only [] w w32) := by
        show Only _ _ _
        rw [hw]
        exact HOw31.out.drewN dn
      clear hc hw
      have hc := HREAD.out w32
      go_wp2_with fail
      refine hc.mono ?_
      intro e w33 h
      obtain ⟨ho, ra, rc, rfl, hr⟩ := h
      have HOw33 := Lib.hid (HOw32.out.trans ho (by simp))
      have HRw33 := Lib.hid hr
      clear hc ho hr
      have hc := HPARSE.out w33 HOw33.out
      go_wp2_with fail
      refine hc.mono ?_
      intro e w34 h
      obtain ⟨ho, pa, pc, rfl, hr⟩ := h
      have HOw34 := Lib.hid (HOw33.out.trans ho (by simp))
      have HRw34 := Lib.hid (HRw33.out.same ho)
      have HQw34 := Lib.hid hr
      clear hc ho hr
      have hc := same_errV PF w34 (HG.out w34 HOw34.out)
      go_wp2_with fail
      refine hc.mono ?_
      rintro e w35 ⟨rfl, ho⟩
      have HEw35 := Lib.hid ho
      have HOw35 := Lib.hid (HOw34.out.trans ho (by simp))
      clear hc ho
      have hc := HSAME.out w35 (.slice pa PN pc) (.slice ra PN rc) (HQw34.out.same HEw35.out) (HRw34.out.same HEw35.out)
      go_wp2_with fail
      refine hc.mono ?_
      rintro e w36 ⟨rfl, ho⟩
      have HOw36 := Lib.hid (HOw35.out.trans ho (by simp))
      clear hc ho
      go_wp2
      go_ret
      exact ⟨rfl, HOw36.out.below (Nat.le_refl _) (by simp)⟩
    · by_cases hr2 : (n : Int) ≤ a1
      · skip
        have hc := HPAO.out w29 HOw29.out (.inr hr2)
        go_wp2_with fail
        refine hc.mono ?_
        rintro e w37 ⟨rfl, ho⟩
        have HOw37 := Lib.hid (HOw29.out.trans ho (by simp))
        clear hc
        clear ho
        have hc := same_errV 1 w37 (HG.out w37 HOw37.out)
        go_wp2_with fail
        refine hc.mono ?_
        rintro e w38 ⟨rfl, ho⟩
        have HEw38 := Lib.hid ho
        have HOw38 := Lib.hid (HOw37.out.trans ho (by simp))
        clear hc ho
        have hc := same_ints (.slice none 0 0) (.slice none 0 0) [] w38 (Ints.nil w38 0).reads (Ints.nil w38 0).reads (by simp)
        go_wp2_with fail
        refine hc.mono ?_
        rintro e w39 ⟨rfl, dn, hw⟩
        have HOw39 : Hid (Only [] w w39) := by
          show Only _ _ _
          rw [hw]
          exact HOw38.out.drewN dn
        clear hc hw
        have hc := HREAD.out w39
        go_wp2_with fail
        refine hc.mono ?_
        intro e w40 h
        obtain ⟨ho, ra, rc, rfl, hr⟩ := h
        have HOw40 := Lib.hid (HOw39.out.trans ho (by simp))
        have HRw40 := Lib.hid hr
        clear hc ho hr
        have hc := HPARSE.out w40 HOw40.out
        go_wp2_with fail
        refine hc.mono ?_
        intro e w41 h
        obtain ⟨ho, pa, pc, rfl, hr⟩ := h
        have HOw41 := Lib.hid (HOw40.out.trans ho (by simp))
        have HRw41 := Lib.hid (HRw40.out.same ho)
        have HQw41 := Lib.hid hr
        clear hc ho hr
        have hc := same_errV PF w41 (HG.out w41 HOw41.out)
        go_wp2_with fail
        refine hc.mono ?_
        rintro e w42 ⟨rfl, ho⟩
        have HEw42 := Lib.hid ho
        have HOw42 := Lib.hid (HOw41.out.trans ho (by simp))
        clear hc ho
        have hc := HSAME.out w42 (.slice pa PN pc) (.slice ra PN rc) (HQw41.out.same HEw42.out) (HRw41.out.same HEw42.out)
        go_wp2_with fail
        refine hc.mono ?_
        rintro e w43 ⟨rfl, ho⟩
        have HOw43 := Lib.hid (HOw42.out.trans ho (by simp))
        clear hc ho
        go_wp2
        go_ret
        exact ⟨rfl, HOw43.out.below (Nat.le_refl _) (by simp)⟩
      · have hn1 : a1 < (n : Int) := by omega
        have hn0 : 0 ≤ a1 := by omega
        have hc := HRAF.out w29 HOw29.out
        go_wp2_with fail
        refine hc.mono ?_
        rintro e w44 ⟨va, rfl, hI, ho⟩
        have HOw44 := Lib.hid (HOw29.out.trans ho (by simp))
        clear hc
        obtain ⟨xa, xc, rfl, _⟩ := hI.opt
        rw [HALN.out] at hI ⊢
        have HK1 := Lib.hid hI
        clear ho hI
        have hc := HPAF.out w44 HOw44.out hn0 hn1
        go_wp2_with fail
        refine hc.mono ?_
        rintro e w45 ⟨ya, yc, rfl, hI, ho⟩
        have HOw45 := Lib.hid (HOw44.out.trans ho (by simp))
        clear hc
        have HK2 := Lib.hid (Ints.only HK1.out ho (by simp))
        have HL2 := Lib.hid hI
        clear ho hI HK1
        have hc := same_nil 0 w45 true rfl
        go_wp2_with fail
        refine hc.mono ?_
        rintro e w46 ⟨rfl, hw⟩
        have HEw46 : Hid (Only [] w45 w46) := by
          show Only _ _ _
          rw [← hw]
          exact Only.refl _ _
        have HOw46 := Lib.hid (HOw45.out.trans HEw46.out (by simp))
        clear hc hw
        have HK3 := Lib.hid (Ints.only HK2.out HEw46.out (by simp))
        have HL3 := Lib.hid (Ints.only HL2.out HEw46.out (by simp))
        clear HK2 HL2
        have hc := same_ints (.slice ya z yc) (.slice xa z xc) AL w46 (HL3.out.reads) (HK3.out.reads) (by rw [HALN.out]; omega)
        go_wp2_with fail
        refine hc.mono ?_
        rintro e w47 ⟨rfl, dn, hw⟩
        have HOw47 : Hid (Only [] w w47) := by
          show Only _ _ _
          rw [hw]
          exact HOw46.out.drewN dn
        clear hc hw
        have hc := HREAD.out w47
        go_wp2_with fail
        refine hc.mono ?_
        intro e w48 h
        obtain ⟨ho, ra, rc, rfl, hr⟩ := h
        have HOw48 := Lib.hid (HOw47.out.trans ho (by simp))
        have HRw48 := Lib.hid hr
        clear hc ho hr
        have hc := HPARSE.out w48 HOw48.out
        go_wp2_with fail
        refine hc.mono ?_
        intro e w49 h
        obtain ⟨ho, pa, pc, rfl, hr⟩ := h
        have HOw49 := Lib.hid (HOw48.out.trans ho (by simp))
        have HRw49 := Lib.hid (HRw48.out.same ho)
        have HQw49 := Lib.hid hr
        clear hc ho hr
        have hc := same_errV PF w49 (HG.out w49 HOw49.out)
        go_wp2_with fail
        refine hc.mono ?_
        rintro e w50 ⟨rfl, ho⟩
        have HEw50 := Lib.hid ho
        have HOw50 := Lib.hid (HOw49.out.trans ho (by simp))
        clear hc ho
        have hc := HSAME.out w50 (.slice pa PN pc) (.slice ra PN rc) (HQw49.out.same HEw50.out) (HRw49.out.same HEw50.out)
        go_wp2_with fail
        refine hc.mono ?_
        rintro e w51 ⟨rfl, ho⟩
        have HOw51 := Lib.hid (HOw50.out.trans ho (by simp))
        clear hc ho
        go_wp2
        go_ret
        exact ⟨rfl, HOw51.out.below (Nat.le_refl _) (by simp)⟩
  · have hf1 : (f == 0) = false := by simpa using hf0
    have hne : planFault l0 ≠ 0 := by rw [HFF.out]; exact hf0
    have HPORD := Lib.hid (fun (W : World) (hW : Only [] w W) => plan_Order_no _ l0 W (HP.out W hW) hne)
    have HPRN := Lib.hid (fun (W : World) (hW : Only [] w W) => plan_Print_no _ l0 W (HP.out W hW) hne)
    have HPAF := Lib.hid (fun (W : World) (hW : Only [] w W) => plan_After_no _ l0 a1 W (HP.out W hW) hne)
    rw [HFF.out] at HPORD HPRN HPAF
    have hself : ((⟨#[]⟩ : ByteArray).toList == (⟨#[]⟩ : ByteArray).toList) = true := beq_self_eq_true _
    clear hne hf0
    go_enter Tryz.func3, Tryz.ntmps3
    go_wp2_with fail
    refine hpl.mono ?_
    rintro e w20 ⟨rfl, ho⟩
    have HOw20 := Lib.hid (HO.out.trans ho (by simp))
    clear hpl ho
    have hc := HCK.out w20 HOw20.out
    go_wp2_with fail
    refine hc.mono ?_
    rintro e w21 ⟨rfl, ho⟩
    have HOw21 := Lib.hid (HOw20.out.trans ho (by simp))
    clear hc
    clear ho
    have hc := same_errV f w21 (HG.out w21 HOw21.out)
    go_wp2_with fail
    refine hc.mono ?_
    rintro e w22 ⟨rfl, ho⟩
    have HEw22 := Lib.hid ho
    have HOw22 := Lib.hid (HOw21.out.trans ho (by simp))
    clear hc ho
    have hc := HPORD.out w22 HOw22.out
    go_wp2_with fail
    refine hc.mono ?_
    rintro e w23 ⟨rfl, ho⟩
    have HOw23 := Lib.hid (HOw22.out.trans ho (by simp))
    clear hc
    clear ho
    have hc := same_errV f w23 (HG.out w23 HOw23.out)
    go_wp2_with fail
    refine hc.mono ?_
    rintro e w24 ⟨rfl, ho⟩
    have HEw24 := Lib.hid ho
    have HOw24 := Lib.hid (HOw23.out.trans ho (by simp))
    clear hc ho
    have hc := same_ints (.slice none 0 0) (.slice none 0 0) [] w24 (Ints.nil w24 0).reads (Ints.nil w24 0).reads (by simp)
    go_wp2_with fail
    refine hc.mono ?_
    rintro e w25 ⟨rfl, dn, hw⟩
    have HOw25 : Hid (Only [] w w25) := by
      show Only _ _ _
      rw [hw]
      exact HOw24.out.drewN dn
    clear hc hw
    have hc := HPRN.out w25 HOw25.out
    go_wp2_with fail
    refine hc.mono ?_
    rintro e w26 ⟨rfl, ho⟩
    have HOw26 := Lib.hid (HOw25.out.trans ho (by simp))
    clear hc
    clear ho
    have hc := same_errV f w26 (HG.out w26 HOw26.out)
    go_wp2_with fail
    refine hc.mono ?_
    rintro e w27 ⟨rfl, ho⟩
    have HEw27 := Lib.hid ho
    have HOw27 := Lib.hid (HOw26.out.trans ho (by simp))
    clear hc ho
    have hc := HPAF.out w27 HOw27.out
    go_wp2_with fail
    refine hc.mono ?_
    rintro e w28 ⟨rfl, ho⟩
    have HOw28 := Lib.hid (HOw27.out.trans ho (by simp))
    clear hc
    clear ho
    have hc := same_errV f w28 (HG.out w28 HOw28.out)
    go_wp2_with fail
    refine hc.mono ?_
    rintro e w29 ⟨rfl, ho⟩
    have HEw29 := Lib.hid ho
    have HOw29 := Lib.hid (HOw28.out.trans ho (by simp))
    clear hc ho
    have hc := same_ints (.slice none 0 0) (.slice none 0 0) [] w29 (Ints.nil w29 0).reads (Ints.nil w29 0).reads (by simp)
    go_wp2_with fail
    refine hc.mono ?_
    rintro e w30 ⟨rfl, dn, hw⟩
    have HOw30 : Hid (Only [] w w30) := by
      show Only _ _ _
      rw [hw]
      exact HOw29.out.drewN dn
    clear hc hw
    have hc := HREAD.out w30
    go_wp2_with fail
    refine hc.mono ?_
    intro e w31 h
    obtain ⟨ho, ra, rc, rfl, hr⟩ := h
    have HOw31 := Lib.hid (HOw30.out.trans ho (by simp))
    have HRw31 := Lib.hid hr
    clear hc ho hr
    have hc := HPARSE.out w31 HOw31.out
    go_wp2_with fail
    refine hc.mono ?_
    intro e w32 h
    obtain ⟨ho, pa, pc, rfl, hr⟩ := h
    have HOw32 := Lib.hid (HOw31.out.trans ho (by simp))
    have HRw32 := Lib.hid (HRw31.out.same ho)
    have HQw32 := Lib.hid hr
    clear hc ho hr
    have hc := same_errV PF w32 (HG.out w32 HOw32.out)
    go_wp2_with fail
    refine hc.mono ?_
    rintro e w33 ⟨rfl, ho⟩
    have HEw33 := Lib.hid ho
    have HOw33 := Lib.hid (HOw32.out.trans ho (by simp))
    clear hc ho
    have hc := HSAME.out w33 (.slice pa PN pc) (.slice ra PN rc) (HQw32.out.same HEw33.out) (HRw32.out.same HEw33.out)
    go_wp2_with fail
    refine hc.mono ?_
    rintro e w34 ⟨rfl, ho⟩
    have HOw34 := Lib.hid (HOw33.out.trans ho (by simp))
    clear hc ho
    go_wp2
    go_ret
    exact ⟨rfl, HOw34.out.below (Nat.le_refl _) (by simp)⟩

end Go.Proofs.YtoofalchkedciaaGreatDoor.planTells
