/-
  The statement WeaveTells: any text of a weave as a plan, its work, its span. No condition but the listed variables'.
-/
import Derived.Test.YtocpmncedlenbaaDoorP1WeaveTells
import Derived.Test.YtocpmncedlenbaaDoorP3WeaveTells
import Derived.Test.YtocpmncedlenbaaDoorP2WeaveTells
import Derived.Test.YtocpmncedlenbaaDoorP13WeaveTells
import Derived.Test.YtocpmncedlenbaaDoorP34WeaveTells
import Derived.Test.YtocpmncedlenbaaDoorP44WeaveTells
namespace Go.Proofs.YtocpmncedlenbaaDoor.weaveTells
open Go.ChangeShapes Go.WideShapes Go.ChangeAt Go.RowKit
open Go.ChangeMaps (open_string shut_string)
set_option linter.unusedVariables false


theorem plan_none (w : World) : InPlan w (.slice none 0 0) [] := (OwnPlan.nil w 0 (fun _ => False)).plan

set_option maxRecDepth 100000 in
set_option maxHeartbeats 4000000 in
theorem walk (a0 : ByteArray) (w : World) (hglob : Glob w) (hrange : VarErr "strconv.ErrRange" w) (hsyn : VarErr "strconv.ErrSyntax" w) (w0 : a0.size ≤ maxLen) :
    Calls Tryd.prog 3 #[.string a0] w fun e w' => e = .returned (.bool true) ∧ Below w.heap.size w w' := by
  have HG := Lib.hid hglob
  have HSY := Lib.hid hsyn
  have HRA := Lib.hid hrange
  have hmax : a0.size ≤ 9223372036854775807 := by unfold maxLen at w0; omega
  have hr := ref_ReadWeave a0 w hmax
  clear w0 hglob hsyn hrange
  by_cases hf : weaveF a0 = 0
  · obtain ⟨h200, a, hpt, h20, h30⟩ := weaveF_ok hf
    have hr : Calls Tryd.prog 6 #[.string a0] w fun e w' => ∃ x c, e = .returned (.tuple #[.slice x (cntW a) c, .int .i64 (workW a), .int .i64 (spanW a), .int .i64 0]) ∧ InPlan w' (.slice x (cntW a) c) (build a []) ∧ Only [] w w' := by
      refine hr.mono fun e w' hp => ?_
      rcases hp with ⟨h, _⟩ | ⟨_, b, x, c, h1, h2, h3, h4⟩
      · exact absurd hf h
      · rw [hpt] at h1
        injection h1 with h1
        injection h1 with h1 _
        subst h1
        exact ⟨x, c, h2, h3, h4⟩
    have hlen : (build a []).length = cntW a := by rw [build_len]; simp
    have hnd : Hid (∀ j, j < (build a []).length → (ndOf (build a []) j).length ≤ 1000000) := fun j hj => by
      have h1 := weave_plan a (NumsW.mono (fun n (h : 1 ≤ n ∧ n ≤ 21) => h.1) (text_ok hpt)) h30 (fun j hj => by
        by_cases h : 20 < wkOf (build a []) j
        · exact absurd ⟨j, hj, h⟩ h20
        · omega)
      have := h1.1.needs j
      omega
    have HLEN := Lib.hid hlen
    have HP := Lib.hid (fun (W : World) (hs : VarErr "strconv.ErrSyntax" W) (hr : VarErr "strconv.ErrRange" W) => Parse_ok a0 W hs hr a h200 hpt h20 h30)
    have HM := Lib.hid (fun (W : World) (hs : VarErr "strconv.ErrSyntax" W) (hr : VarErr "strconv.ErrRange" W) => Measure_ok a0 W hs hr a h200 hpt h20 h30)
    clear hf hpt h20 hlen
    obtain ⟨wk, hwk⟩ : ∃ wk, workW a = wk := ⟨_, rfl⟩
    obtain ⟨sp, hsp⟩ : ∃ sp, spanW a = sp := ⟨_, rfl⟩
    rw [hwk, hsp] at hr HP HM
    clear hwk hsp
    go_enter Tryd.func3, Tryd.ntmps3
    go_wp2_with fail
    refine hr.mono ?_
    rintro e wa ⟨x1, k1, rfl, hP1, ho1⟩
    have HOa := Lib.hid ho1
    have HP1 := Lib.hid hP1
    have hp2 := HP.out wa (HSY.out.only ho1) (HRA.out.only ho1)
    clear hr ho1 hP1
    go_wp2_with fail
    refine hp2.mono ?_
    rintro e wb ⟨x2, k2, rfl, hP2, ho2⟩
    have HOb := Lib.hid (HOa.out.trans ho2 (by simp))
    have hq := same_plan _ _ (build a []) wb hP2 (HP1.out.same ho2) (by have := HLEN.out; omega) hnd.out
    have hs1 := same_nil 0 wb true rfl
    clear hp2 ho2 hP2
    go_wp2_with fail
    refine hs1.mono ?_
    rintro e wc ⟨rfl, rfl⟩
    clear hs1
    go_wp2_with fail
    refine hq.mono ?_
    rintro e wd ⟨rfl, ho4⟩
    have HOd := Lib.hid (HOb.out.trans ho4 (by simp))
    have hm := HM.out wd (HSY.out.only HOd.out) (HRA.out.only HOd.out)
    clear hq ho4
    go_wp2_with fail
    refine hm.mono ?_
    rintro e we ⟨rfl, ho5⟩
    have HOe := Lib.hid (HOd.out.trans ho5 (by simp))
    have hs2 := same_nil 0 we true rfl
    clear hm ho5
    go_wp2_with fail
    refine hs2.mono ?_
    rintro e wg ⟨rfl, rfl⟩
    clear hs2
    go_wp2
    go_ret
    exact ⟨by simp, HOe.out.below (Nat.le_refl _) (by simp)⟩
  · have hr : Calls Tryd.prog 6 #[.string a0] w fun e w' => e = .returned (.tuple #[.slice none 0 0, .int .i64 0, .int .i64 0, .int .i64 (weaveF a0)]) ∧ Only [] w w' := by
      refine hr.mono fun e w' hp => ?_
      rcases hp with ⟨_, h1, h2⟩ | ⟨h, _⟩
      · exact ⟨h1, h2⟩
      · exact absurd h hf
    have HP := Lib.hid (fun (W : World) (hs : VarErr "strconv.ErrSyntax" W) (hr : VarErr "strconv.ErrRange" W) => Parse_no a0 W hmax hs hr hf)
    have HM := Lib.hid (fun (W : World) (hs : VarErr "strconv.ErrSyntax" W) (hr : VarErr "strconv.ErrRange" W) => Measure_no a0 W hmax hs hr hf)
    generalize weaveF a0 = f at *
    clear hf
    go_enter Tryd.func3, Tryd.ntmps3
    go_wp2_with fail
    refine hr.mono ?_
    rintro e wa ⟨rfl, ho1⟩
    have HOa := Lib.hid ho1
    have hp2 := HP.out wa (HSY.out.only ho1) (HRA.out.only ho1)
    clear hr ho1
    go_wp2_with fail
    refine hp2.mono ?_
    rintro e wb ⟨rfl, ho2⟩
    have HOb := Lib.hid (HOa.out.trans ho2 (by simp))
    have hs1 := same_err f f wb (HG.out.only HOb.out) true (by simp)
    clear hp2 ho2
    go_wp2_with fail
    refine hs1.mono ?_
    rintro e wc ⟨rfl, ho3⟩
    have HOc := Lib.hid (HOb.out.trans ho3 (by simp))
    have hq := same_plan _ _ [] wc (plan_none wc) (plan_none wc) (by simp) (fun i hi => by simp at hi)
    clear hs1 ho3
    go_wp2_with fail
    refine hq.mono ?_
    rintro e wd ⟨rfl, ho4⟩
    have HOd := Lib.hid (HOc.out.trans ho4 (by simp))
    have hm := HM.out wd (HSY.out.only HOd.out) (HRA.out.only HOd.out)
    clear hq ho4
    go_wp2_with fail
    refine hm.mono ?_
    rintro e we ⟨rfl, ho5⟩
    have HOe := Lib.hid (HOd.out.trans ho5 (by simp))
    have hs2 := same_err f f we (HG.out.only HOe.out) true (by simp)
    clear hm ho5
    go_wp2_with fail
    refine hs2.mono ?_
    rintro e wg ⟨rfl, ho6⟩
    have HOg := Lib.hid (HOe.out.trans ho6 (by simp))
    clear hs2 ho6
    go_wp2
    go_ret
    exact ⟨by simp, HOg.out.below (Nat.le_refl _) (by simp)⟩

end Go.Proofs.YtocpmncedlenbaaDoor.weaveTells
