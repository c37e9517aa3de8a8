/-
  The statement WeaveDeep: a weave in signs is the weave. No condition but the listed variables'.
-/
import Derived.Test.YtloojhnhialenaaDoorFrame
import Derived.Test.YtloojhnhialenaaDoorLaid
import Derived.Test.YtloojhnhialenaaDoorTold
import Derived.Test.YtloojhnhialenaaDoorErrV
import Derived.Test.YtloojhnhialenaaDoorWeaveT
import Derived.Test.YtloojhnhialenaaDoorSameP
namespace Go.Proofs.YtloojhnhialenaaDoor.weaveDeep
open Go.ChangeShapes Go.WideShapes Go.ChangeAt Go.RowKit
open Go.ChangeMaps (open_string shut_string)
set_option linter.unusedVariables false


set_option maxRecDepth 100000 in
set_option maxHeartbeats 4000000 in
theorem walk (a0 : ByteArray) (a1 : Int) (w : World) (hglob : Glob w) (hrange : VarErr "strconv.ErrRange" w) (hsyn : VarErr "strconv.ErrSyntax" w) (w0 : a0.size ≤ maxLen) (w1 : (Lit.int .i64 a1).wf = true) :
    Calls Tryd.prog 5 #[.string a0, .int .i64 a1] w fun e w' => e = .returned (.bool true) ∧ Below w.heap.size w w' := by
  have HG := Lib.hid hglob
  have HSY := Lib.hid hsyn
  have HRA := Lib.hid hrange
  have hmax : a0.size ≤ 9223372036854775807 := by unfold maxLen at w0; omega
  have bd1 := bounds_i64 w1
  have hc : pText ⟨#[40, 40, 50, 41, 41]⟩ = some (.num 2, []) := wrap_pText _ _ (wrap_pText _ _ pText_two)
  have hp1 := Parse_ok ⟨#[40, 40, 50, 41, 41]⟩ w hsyn hrange (.num 2) (by decide) hc (by rintro ⟨i, h1, h2⟩; obtain rfl : i = 0 := by have : i < 1 := h1; omega
                                                                                         exact absurd h2 (by decide)) (by decide)
  have hp1 : Calls Tryd.prog 16 #[.string ⟨#[40, 40, 50, 41, 41]⟩] w fun e w' => ∃ x c, e = .returned (.tuple #[.slice x 1 c, .int .i64 2, .int .i64 2, .nilIface]) ∧ InPlan w' (.slice x 1 c) (build (.num 2) []) ∧ Only [] w w' := hp1
  clear w0 w1 hc hglob hsyn hrange
  go_enter Tryd.func5, Tryd.ntmps5
  go_wp2_with fail
  refine hp1.mono ?_
  rintro e wa ⟨x1, k1, rfl, _, ho1⟩
  have HOa := Lib.hid ho1
  clear hp1 ho1
  by_cases hf : weaveF a0 = 0
  · obtain ⟨h200, a, hpt, h20, h30⟩ := weaveF_ok hf
    have hp2 := Parse_ok a0 wa (HSY.out.only HOa.out) (HRA.out.only HOa.out) a h200 hpt h20 h30
    have HPT := Lib.hid hpt
    have H20 := Lib.hid h20
    clear hf hpt h20
    go_wp2_with fail
    refine hp2.mono ?_
    rintro e wb ⟨x2, k2, rfl, hP2, ho2⟩
    have HOb := Lib.hid (HOa.out.trans ho2 (by simp))
    have HP2 := Lib.hid hP2
    clear hp2 ho2 hP2
    by_cases hn : 0 ≤ a1 ∧ a1 ≤ 20
    · obtain ⟨n, rfl⟩ := Int.eq_ofNat_of_zero_le hn.1
      have hn20 : n ≤ 20 := by omega
      clear hn bd1
      go_wp2_with fail
      go_loopw [13, 14] (fun vu vi wr => ∃ i : Nat, i ≤ n ∧ vu = .string (wrapN a0 i) ∧ vi = .int .i64 (i : Int) ∧ wr = wb) (fun _ vi _ => n - (intOf vi).toNat)
      case atStart => exact ⟨0, Nat.zero_le _, rfl, rfl, rfl⟩
      case round =>
        obtain ⟨i, hi, rfl, rfl, rfl⟩ := hrel
        by_cases hin : i < n
        · obtain ⟨U, hU, hUz⟩ : ∃ U : ByteArray, wrapN a0 i = U ∧ U.size ≤ 240 := ⟨_, rfl, by rw [wrapN_size]; omega⟩
          have hnx := Lib.hid (show (⟨#[40]⟩ : ByteArray) ++ U ++ (⟨#[41]⟩ : ByteArray) = wrapN a0 (i + 1) by rw [← hU]; rfl)
          rw [hU]
          have z1 : ¬ 9223372036854775806 < U.size := by omega
          have z2 : ¬ 9223372036854775807 < (⟨#[40]⟩ : ByteArray).size + U.size := by show ¬ 9223372036854775807 < 1 + U.size; omega
          obtain ⟨V, hV, hVz⟩ : ∃ V : ByteArray, (⟨#[40]⟩ : ByteArray) ++ U = V ∧ V.size ≤ 241 := ⟨_, rfl, by rw [ByteArray.size_append]; show 1 + U.size ≤ 241; omega⟩
          rw [hV] at hnx
          have z3 : ¬ 9223372036854775806 < V.size := by omega
          have z4 : ¬ 9223372036854775807 < V.size + (⟨#[41]⟩ : ByteArray).size := by show ¬ 9223372036854775807 < V.size + 1; omega
          clear hU hUz hVz
          go_wp2
          go_roundw
          case rel => exact ⟨i + 1, by omega, by first | exact congrArg Value.string hnx.out | rw [hnx.out], by go_num, by first | rfl | trivial⟩
          case measure => (simp [intOf]; try omega)
        · obtain rfl : i = n := by omega
          have hUp := wrapN_pText a0 a HPT.out i
          obtain ⟨U, hU, hUz⟩ : ∃ U : ByteArray, wrapN a0 i = U ∧ U.size ≤ 240 := ⟨_, rfl, by rw [wrapN_size]; omega⟩
          rw [hU] at hUp ⊢
          clear hU
          by_cases hbig : 200 < U.size
          · have hw4 : weaveF U = 4 := by unfold weaveF; rw [if_pos hbig]
            have hp3 := Parse_no U wr (by omega) (HSY.out.only HOb.out) (HRA.out.only HOb.out) (by rw [hw4]; decide)
            rw [hw4] at hp3
            clear hw4
            go_wp2_with fail
            refine hp3.mono ?_
            rintro e wc ⟨rfl, ho3⟩
            have HOc := Lib.hid (HOb.out.trans ho3 (by simp))
            clear hp3 ho3
            go_wp2_with fail
            refine (same_err 4 4 wc (HG.out.only HOc.out) true rfl).mono ?_
            rintro e wd ⟨rfl, ho4⟩
            have HOd := Lib.hid (HOc.out.trans ho4 (by simp))
            clear ho4
            go_wp2
            go_ret
            exact ⟨rfl, HOd.out.below (Nat.le_refl _) (by simp)⟩
          · have hp3 := Parse_ok U wr (HSY.out.only HOb.out) (HRA.out.only HOb.out) a (by omega) hUp H20.out h30
            go_wp2_with fail
            refine hp3.mono ?_
            rintro e wc ⟨x3, k3, rfl, hP3, ho3⟩
            have HOc := Lib.hid (HOb.out.trans ho3 (by simp))
            have hlen : (build a []).length = cntW a := by rw [build_len]; simp
            have hsp := same_plan _ _ (build a []) wc (HP2.out.same ho3) hP3 (by omega) (fun j hj => by
              have h1 := weave_plan a (NumsW.mono (fun n (h : 1 ≤ n ∧ n ≤ 21) => h.1) (text_ok HPT.out)) h30 (fun j hj => by
                have := H20.out
                by_cases h : 20 < wkOf (build a []) j
                · exact absurd ⟨j, hj, h⟩ this
                · omega)
              have := h1.1.needs j
              omega)
            clear hp3 ho3 hP3 hlen
            go_wp2_with fail
            refine hsp.mono ?_
            rintro e wd ⟨rfl, ho4⟩
            have HOd := Lib.hid (HOc.out.trans ho4 (by simp))
            clear hsp ho4
            go_wp2
            go_ret
            exact ⟨by simp, HOd.out.below (Nat.le_refl _) (by simp)⟩
    · have hor : a1 < 0 ∨ (0 ≤ a1 ∧ 20 < a1) := by omega
      clear hn
      rcases hor with h | ⟨h, h2⟩
      all_goals
        go_wp2
        go_ret
        exact ⟨rfl, HOb.out.below (Nat.le_refl _) (by simp)⟩
  · have hp2 := Parse_no a0 wa hmax (HSY.out.only HOa.out) (HRA.out.only HOa.out) hf
    generalize weaveF a0 = f at *
    go_wp2_with fail
    refine hp2.mono ?_
    rintro e wb ⟨rfl, ho2⟩
    have HOb := Lib.hid (HOa.out.trans ho2 (by simp))
    clear hp2 ho2
    go_wp2
    go_ret
    exact ⟨rfl, HOb.out.below (Nat.le_refl _) (by simp)⟩

end Go.Proofs.YtloojhnhialenaaDoor.weaveDeep
