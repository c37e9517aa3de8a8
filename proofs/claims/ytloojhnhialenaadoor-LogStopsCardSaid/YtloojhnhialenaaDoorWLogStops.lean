/-
  The statement LogStops: when it has stopped it has stopped. No condition.
-/
import Derived.Test.YtloojhnhialenaaDoorFrame
import Derived.Test.YtloojhnhialenaaDoorLaid
import Derived.Test.YtloojhnhialenaaDoorLog2
import Derived.Test.YtloojhnhialenaaDoorCrash
import Derived.Test.YtloojhnhialenaaDoorChainK
import Derived.Test.YtloojhnhialenaaDoorTold
import Derived.Test.YtloojhnhialenaaDoorPlanO
namespace Go.Proofs.YtloojhnhialenaaDoor.logStops
open Go.ChangeShapes Go.WideShapes Go.ChangeAt Go.RowKit
open Go.ChangeMaps (open_string shut_string)
set_option linter.unusedVariables false


theorem besides_r (l : List Nat) (i : Nat) (hi : i ∉ l) : readyB (besideP 30 1) (doneB l) i = true := by
  unfold readyB
  rw [beside_nd]
  simp [doneB, hi]
theorem range_ord (k : Nat) (hk : k ≤ 30) : OrdOk (besideP 30 1) (List.range k) := by
  induction k with
  | zero => exact OrdOk.nil _
  | succ k ih =>
    rw [List.range_succ]
    exact (ih (by omega)).push (by rw [besideP_len]; omega) (besides_r _ _ (by simp))
theorem text_short (l : List Nat) (h : ∀ i ∈ l, i < 100) : (textOf l).length ≤ 3 * l.length := by
  induction l with
  | nil => simp [textOf]
  | cons i l ih =>
    have h1 := ih (fun j hj => h j (by simp [hj]))
    have h2 := digits_two (h i (by simp))
    have e : textOf (i :: l) = lineOf i ++ textOf l := by simp [textOf]
    rw [e]
    simp [lineOf]
    omega
theorem range_short (k : Nat) (hk : k ≤ 30) : (textOf (List.range k)).length ≤ 90 := by
  have := text_short (List.range k) (fun i hi => by have := List.mem_range.1 hi; omega)
  simp at this
  omega
theorem half_no10 (i : Nat) (h : i < 100) : (10 : UInt8) ∉ (lineOf i).take ((lineOf i).length / 2) := fun hm => by
  unfold lineOf at hm
  have h2 := digits_two h
  have h0 : 1 ≤ (Lib.decDigits i).length := List.length_pos_iff.2 (digits_ne i h)
  rw [List.take_append_of_le_length (by simp; omega)] at hm
  exact dig_no10 (digits_dig h) (List.mem_of_mem_take hm)
theorem half_len (i : Nat) (h : i < 100) : ((lineOf i).take ((lineOf i).length / 2)).length ≤ 3 := by
  have h2 := digits_two h
  rw [List.length_take]
  unfold lineOf
  simp
  omega

theorem logIs_g {w : World} {S : List Nat} {F : Nat → Prop} {G : Nat} {p : PlanL} {s : LSt} (h : LogIs w S F G p s) : G ∈ S := by
  obtain ⟨_, _, _, _, _, _, _, rfl, _⟩ := h
  simp

/-- Where it has stopped. -/
def Halted (w : World) (S : List Nat) (G : Nat) : Prop := ∃ F k part sf, k ≤ 20 ∧ (10 : UInt8) ∉ part ∧ part.length ≤ 3 ∧ sf ≤ (textOf (List.range k)).length ∧ LogIs w S F G (besideP 30 1) ⟨List.range k, textOf (List.range k) ++ part, sf, -1, true⟩

set_option maxHeartbeats 4000000 in
set_option maxRecDepth 100000 in
theorem walk (a0 : Int) (a1 : Int) (a2 : Int) (w : World) (hglob : Glob w) (hrange : VarErr "strconv.ErrRange" w) (hsyn : VarErr "strconv.ErrSyntax" w) (w0 : (Lit.int .i64 a0).wf = true) (w1 : (Lit.int .i64 a1).wf = true) (w2 : (Lit.int .i64 a2).wf = true) :
    Calls Tryd.prog 8 #[.int .i64 a0, .int .i64 a1, .int .i64 a2] w fun e w' => e = .returned (.bool true) ∧ Below w.heap.size w w' := by
  have bd0 := bounds_i64 w0
  have bd1 := bounds_i64 w1
  have bd2 := bounds_i64 w2
  have HG := Lib.hid hglob
  clear w0 w1 w2 hglob
  go_enter Tryd.func8, Tryd.ntmps8
  go_wp2_with fail
  go_loopw [7, 8] (fun vp vi wr => ∃ i : Nat, i ≤ 30 ∧ vi = .int .i64 i ∧ OwnPlan wr w.heap.size (fun x => w.heap.size ≤ x) vp (besideP i 1) ∧ Only [] w wr) (fun _ vi _ => 30 - (intOf vi).toNat)
  case atStart => exact ⟨0, Nat.zero_le _, rfl, OwnPlan.nil _ _ _, Only.refl _ _⟩
  case round =>
    obtain ⟨wo, rfl⟩ : ∃ wo : World, wo = wr := ⟨_, rfl⟩
    obtain ⟨i, hi, rfl, hO, ho⟩ := hrel
    by_cases hin : i < 30
    · have hsz := ho.size
      have hfar := hO.far
      obtain ⟨a, cap, rfl, _, _⟩ := hO.form
      have hlen := besideP_len i 1
      obtain ⟨N, k1, k2, k3, k4⟩ := hO
      have hone : Hid (RowAt (wo.alloc (.cells #[.int .i64 1, .slice none 0 0] 53)) (.slice (some ⟨wo.heap.size, 0, none⟩) 1 1) 1 2 [.int .i64 1, .slice none 0 0]) :=
        RowAt.one (cs := #[.int .i64 1, .slice none 0 0]) (heap_alloc_new _ _) rfl (by intro y hy; simp at hy; rcases hy with rfl | rfl <;> rfl)
      have K1 := Lib.hid k1
      have KP := Lib.hid (fun v' w' => OwnPlan.push (W := wo) (w' := w') (base := w.heap.size) (F := fun x => w.heap.size ≤ x) (v' := v') (1, []) (.slice none 0 0) k2 k3 k4 (.inl ⟨rfl, .inl rfl⟩) (fun h => absurd rfl h))
      clear k1 k2 k3 k4
      go_wp2_with (at_builtin; refine wpList_append_rows sliceOf_plan rfl (.tmp 30) (.tmp 32) rfl wo w.heap.size _ _ _ _ 1 _ K1.out hone.out (by omega) hsz rfl rfl ((Only.refl [] wo).alloc _) ?_; intro v3 w3 hI3 hO3 hK3)
      have hP := KP.out v3 w3 hI3 hO3 hK3
      rw [besideP_push] at hP
      have ho3 : Hid (Only [] w w3) := ho.trans hO3 (fun x hx hl => by have := (hfar x hx).1; omega)
      clear hI3 hO3 hK3
      go_roundw
      case rel => exact ⟨i + 1, by omega, by go_num, hP, ho3.out⟩
      case measure => (simp [intOf]; try omega)
    · obtain rfl : i = 30 := by omega
      obtain ⟨a, cap, rfl, _, _⟩ := hO.form
      clear hin hi
      go_wp2_with fail
      refine (Log.new _ (besideP 30 1) wo hO.plan (beside_ok 30 1 (by omega) (by omega) (by omega))).mono ?_
      rintro e wz ⟨G, S, F, rfl, hJ, hS, hF, ho2⟩
      have hoo := ho.trans ho2 (by simp)
      have hS2 : ∀ x ∈ S, w.heap.size ≤ x := fun x hx => by have := (hS x hx).1; have := ho.size; omega
      clear hO ho ho2 hF hS
      by_cases hin : 0 ≤ a0 ∧ a0 ≤ 20 ∧ 0 ≤ a1 ∧ a1 ≤ 20
      · obtain ⟨g1, g2, g3, g4⟩ := hin
        obtain ⟨A, rfl⟩ := Int.eq_ofNat_of_zero_le g1
        obtain ⟨M, rfl⟩ := Int.eq_ofNat_of_zero_le g3
        have hA : A ≤ 20 := by omega
        have hM : M ≤ 20 := by omega
        have HB2 := Lib.hid bd2
        have HS := Lib.hid hS2
        have HO := Lib.hid hoo
        clear g1 g2 g3 g4 bd0 bd1 bd2 hS2 hoo
        go_wp2_with fail
        refine (Log.fail S F G (besideP 30 1) _ A wz hJ).mono ?_
        rintro e wy ⟨rfl, hJy, hoy⟩
        have hms : max (-1) (A : Int) = (A : Int) := by omega
        rw [hms] at hJy
        have hJy : LogIs wy S F G (besideP 30 1) ⟨[], [], 0, A, false⟩ := hJy
        have hoz : Only [] w wy := HO.out.trans hoy (fun x hx hl => by simp at hx; subst hx; have := HS.out _ (logIs_g hJ); omega)
        have hSy : ∀ x ∈ S, w.heap.size ≤ x := HS.out
        clear hJ hoy hms HO HS
        go_wp2_with fail
        go_loopw [11, 12] (fun vs vi wr => ∃ (i : Nat) (S : List Nat), i ≤ M ∧ vs = .int .i64 i ∧ vi = .int .i64 i ∧ (∀ x ∈ S, w.heap.size ≤ x) ∧ Only [] w wr ∧
          ((i ≤ A ∧ ∃ F, LogIs wr S F G (besideP 30 1) ⟨List.range i, textOf (List.range i), 0, (A : Int) - i, false⟩) ∨ (A < i ∧ Halted wr S G))) (fun _ vi _ => M - (intOf vi).toNat)
        case atStart => exact ⟨0, S, Nat.zero_le _, rfl, rfl, hSy, hoz, .inl ⟨Nat.zero_le _, F, by rw [show (A : Int) - ((0 : Nat) : Int) = A by omega]; exact hJy⟩⟩
        case round =>
          obtain ⟨wq, rfl⟩ : ∃ wq : World, wq = wr := ⟨_, rfl⟩
          clear hJy hoz hSy
          obtain ⟨i, S, hi, rfl, rfl, hS, ho, hrl⟩ := hrel
          have HS := Lib.hid hS
          clear hS
          by_cases hlt : i < M
          · rcases hrl with ⟨hiA, F, hJ⟩ | ⟨hAi, hH⟩
            · have HO := Lib.hid ho
              clear ho
              go_wp2_with fail
              refine (Log.done_out S F G (besideP 30 1) _ 99 wq hJ rfl (.inr (by rw [besideP_len]; omega))).mono ?_
              rintro e wa ⟨rfl, rfl⟩
              by_cases heq : i = A
              · subst heq
                have hrd := besides_r (List.range i) i (by simp)
                go_wp2_with fail
                refine (Log.done_halt S F G (besideP 30 1) _ i wq hJ rfl (by rw [besideP_len]; omega) hrd (by simp) (range_ord i (by omega)) (by have := range_short i (by omega); show (textOf (List.range i)).length ≤ 1000; omega)).mono ?_
                rintro e wb ⟨rfl, S2, F2, hJ2, hK2, hF2, ho2⟩
                have hob := HO.out.kin ho2 HS.out
                have hSb : Hid (∀ x ∈ S2, w.heap.size ≤ x) := fun x hx => by
                  rcases hK2 x hx with h | h
                  · exact HS.out x h
                  · have := HO.out.size; omega
                clear hJ hK2 hF2 ho2 hrd
                have HJ2 := Lib.hid hJ2
                clear hJ2
                have HO := Lib.hid hob
                clear hob
                go_wp2_with fail
                refine (same_err 1 6 _ (HG.out.only HO.out) false rfl).mono ?_
                rintro e wc ⟨rfl, hoc⟩
                have HOc := Lib.hid (HO.out.trans hoc (by simp))
                go_wp2_with fail
                refine (same_err 1 1 _ (HG.out.only HOc.out) true rfl).mono ?_
                rintro e wd ⟨rfl, hod⟩
                have HOd := Lib.hid (HOc.out.trans hod (by simp))
                go_wp2_with fail
                refine (same_err 6 6 _ (HG.out.only HOd.out) true rfl).mono ?_
                rintro e we ⟨rfl, hoe⟩
                have HOe := Lib.hid (HOd.out.trans hoe (by simp))
                have hJe := Lib.hid (((HJ2.out.same hoc).same hod).same hoe)
                clear HJ2 hoc hod hoe HOc HOd HO
                go_wp2
                go_roundw
                case rel => exact ⟨i + 1, S2, by omega, by go_num, by go_num, hSb.out, HOe.out, .inr ⟨by omega, F2, i, _, 0, by omega, half_no10 i (by omega), half_len i (by omega), by omega, hJe.out⟩⟩
                case measure => (simp [intOf]; try omega)
              · have hrd := besides_r (List.range i) i (by simp)
                have hps : Hid (LSt.push ⟨List.range i, textOf (List.range i), 0, (A : Int) - i, false⟩ i = ⟨List.range (i + 1), textOf (List.range (i + 1)), 0, (A : Int) - (i + 1 : Nat), false⟩) := by
                  show _ = _
                  unfold LSt.push
                  rw [List.range_succ, textOf_push]
                  congr 1
                  show max (-1) ((A : Int) - i - 1) = _
                  omega
                go_wp2_with fail
                refine (Log.done_ok S F G (besideP 30 1) _ i wq hJ rfl (by rw [besideP_len]; omega) hrd (by show (A : Int) - i ≠ 0; omega) (by show -1 ≤ (A : Int) - i; omega) (by show (A : Int) - i ≤ _; omega) (by simp; omega) (by have := range_short i (by omega); show (textOf (List.range i)).length ≤ 1000; omega)).mono ?_
                rintro e wb ⟨rfl, S2, hJ2, hK2, ho2⟩
                rw [hps.out] at hJ2
                have hob := HO.out.kin ho2 HS.out
                have hSb : Hid (∀ x ∈ S2, w.heap.size ≤ x) := fun x hx => by
                  rcases hK2 x hx with h | h
                  · exact HS.out x h
                  · have := HO.out.size; omega
                clear hJ hK2 ho2 hrd hps
                have HJ2 := Lib.hid hJ2
                clear hJ2
                have HO := Lib.hid hob
                clear hob
                go_wp2_with fail
                refine (same_err 1 6 _ (HG.out.only HO.out) false rfl).mono ?_
                rintro e wc ⟨rfl, hoc⟩
                have HOc := Lib.hid (HO.out.trans hoc (by simp))
                go_wp2_with fail
                refine (same_err 1 1 _ (HG.out.only HOc.out) true rfl).mono ?_
                rintro e wd ⟨rfl, hod⟩
                have HOd := Lib.hid (HOc.out.trans hod (by simp))
                go_wp2_with fail
                refine (same_nil 6 _ false rfl).mono ?_
                rintro e we ⟨rfl, rfl⟩
                have hJe := Lib.hid ((HJ2.out.same hoc).same hod)
                clear HJ2 hoc hod HOc HO
                go_wp2
                go_roundw
                case rel => exact ⟨i + 1, S2, by omega, by go_num, by go_num, hSb.out, HOd.out, .inl ⟨by omega, F, hJe.out⟩⟩
                case measure => (simp [intOf]; try omega)
            · obtain ⟨F, k, part, sf, hk, hp1, hp2, hsf, hJ⟩ := hH
              have HO := Lib.hid ho
              clear ho
              go_wp2_with fail
              refine (Log.done_stop S F G (besideP 30 1) _ 99 wq hJ rfl).mono ?_
              rintro e wa ⟨rfl, rfl⟩
              go_wp2_with fail
              refine (Log.done_stop S F G (besideP 30 1) _ i wq hJ rfl).mono ?_
              rintro e wb ⟨rfl, rfl⟩
              have HJ2 := Lib.hid hJ
              clear hJ
              go_wp2_with fail
              refine (same_err 6 6 _ (HG.out.only HO.out) true rfl).mono ?_
              rintro e wc ⟨rfl, hoc⟩
              have HOc := Lib.hid (HO.out.trans hoc (by simp))
              go_wp2_with fail
              refine (same_err 6 1 _ (HG.out.only HOc.out) false rfl).mono ?_
              rintro e wd ⟨rfl, hod⟩
              have HOd := Lib.hid (HOc.out.trans hod (by simp))
              go_wp2_with fail
              refine (same_err 6 6 _ (HG.out.only HOd.out) true rfl).mono ?_
              rintro e we ⟨rfl, hoe⟩
              have HOe := Lib.hid (HOd.out.trans hoe (by simp))
              have hJe := Lib.hid (((HJ2.out.same hoc).same hod).same hoe)
              clear HJ2 hoc hod hoe HOc HOd HO
              go_wp2
              go_roundw
              case rel => exact ⟨i + 1, S, by omega, by go_num, by go_num, HS.out, HOe.out, .inr ⟨by omega, F, k, part, sf, hk, hp1, hp2, hsf, hJe.out⟩⟩
              case measure => (simp [intOf]; try omega)
          · obtain rfl : M = i := by omega
            clear hlt hi
            have HR := Lib.hid (And.intro ho hrl)
            clear ho hrl
            go_wp2_with fail
            go_loopw [11] (fun vs wr => ∃ t : Nat, vs = .int .i64 t ∧ t ≤ 21 ∧ Only [] w wr ∧
              ((t ≤ A ∧ ∃ F sf, sf ≤ (textOf (List.range M)).length ∧ LogIs wr S F G (besideP 30 1) ⟨List.range M, textOf (List.range M), sf, (A : Int) - t, false⟩) ∨ (A < t ∧ Halted wr S G))) (fun vs _ => A + 1 - (intOf vs).toNat)
            case atStart =>
              obtain ⟨ho, hrl⟩ := HR.out
              refine ⟨M, rfl, by omega, ho, ?_⟩
              rcases hrl with ⟨h1, F, h2⟩ | h
              · exact .inl ⟨h1, F, 0, Nat.zero_le _, h2⟩
              · exact .inr h
            case round =>
              obtain ⟨wp, rfl⟩ : ∃ wp : World, wp = wr := ⟨_, rfl⟩
              clear HR
              obtain ⟨t, rfl, ht, ho, hrl⟩ := hrel
              have HO := Lib.hid ho
              clear ho
              rcases hrl with ⟨htA, F, sf, hsf, hJ⟩ | ⟨hAt, hH⟩
              · by_cases heq : t = A
                · subst heq
                  go_wp2_with fail
                  refine (Log.sync_halt S F G (besideP 30 1) _ wp hJ rfl (by simp)).mono ?_
                  rintro e wa ⟨rfl, hJ2, ho2⟩
                  have HOa := Lib.hid (HO.out.trans ho2 (fun x hx hl => by simp at hx; subst hx; have := HS.out _ (logIs_g hJ2); omega))
                  have HJ2 := Lib.hid hJ2
                  clear hJ hJ2 ho2 HO
                  go_wp2
                  go_roundw
                  case rel => exact ⟨t + 1, by go_num, by omega, HOa.out, .inr ⟨by omega, F, M, [], sf, by omega, by simp, by simp, hsf, HJ2.out⟩⟩
                  case measure => (simp [intOf]; try omega)
                · have hsy : Hid (LSt.synced ⟨List.range M, textOf (List.range M), sf, (A : Int) - t, false⟩ = ⟨List.range M, textOf (List.range M), (textOf (List.range M)).length, (A : Int) - (t + 1 : Nat), false⟩) := by
                    show _ = _
                    unfold LSt.synced
                    congr 1
                    show max (-1) ((A : Int) - t - 1) = _
                    omega
                  go_wp2_with fail
                  refine (Log.sync S F G (besideP 30 1) _ wp hJ rfl (by show (A : Int) - t ≠ 0; omega) (by show -1 ≤ (A : Int) - t; omega) (by show (A : Int) - t ≤ _; omega)).mono ?_
                  rintro e wa ⟨rfl, hJ2, ho2⟩
                  rw [hsy.out] at hJ2
                  have HOa := Lib.hid (HO.out.trans ho2 (fun x hx hl => by simp at hx; subst hx; have := HS.out _ (logIs_g hJ2); omega))
                  have HJ2 := Lib.hid hJ2
                  clear hJ hJ2 ho2 HO hsy
                  go_wp2
                  go_roundw
                  case rel => exact ⟨t + 1, by go_num, by omega, HOa.out, .inl ⟨by omega, F, _, Nat.le_refl _, HJ2.out⟩⟩
                  case measure => (simp [intOf]; try omega)
              · obtain ⟨F, k, part, sf, hk, hp1, hp2, hsf, hJ⟩ := hH
                have hkl := range_short k (by omega)
                go_wp2_with fail
                refine (Log.sync_stop S F G (besideP 30 1) _ wp hJ rfl).mono ?_
                rintro e wa ⟨rfl, rfl⟩
                go_wp2_with fail
                refine (Log.done_stop S F G (besideP 30 1) _ 28 wp hJ rfl).mono ?_
                rintro e wb ⟨rfl, rfl⟩
                go_wp2_with fail
                refine (same_err 6 6 _ (HG.out.only HO.out) true rfl).mono ?_
                rintro e wc ⟨rfl, hoc⟩
                have HOc := Lib.hid (HO.out.trans hoc (by simp))
                have hJ := hJ.same hoc
                clear hoc
                go_wp2_with fail
                refine (same_err 6 6 _ (HG.out.only HOc.out) true rfl).mono ?_
                rintro e wd ⟨rfl, hod⟩
                have HOd := Lib.hid (HOc.out.trans hod (by simp))
                have hJ := hJ.same hod
                clear hod
                go_wp2_with fail
                refine (Log.crash S F G (besideP 30 1) _ a2 part wd hJ (range_ord k (by omega)) rfl hp1 (by show sf ≤ (textOf (List.range k) ++ part).length; simp; omega) (by show (textOf (List.range k) ++ part).length ≤ 1000; simp; omega) HB2.out).mono ?_
                rintro e we ⟨rfl, S2, F2, hJ2, hK2, hF2, ho2⟩
                obtain ⟨k2, hk2, hcr⟩ : ∃ k2, k2 ≤ 20 ∧ (LSt.crashed ⟨List.range k, textOf (List.range k) ++ part, sf, -1, true⟩ (leftB ⟨List.range k, textOf (List.range k) ++ part, sf, -1, true⟩ a2)) = ⟨List.range k2, textOf (List.range k2), (textOf (List.range k2)).length, -1, false⟩ := by
                  refine ⟨min (keepN (List.range k) (leftB ⟨List.range k, textOf (List.range k) ++ part, sf, -1, true⟩ a2)) k, by omega, ?_⟩
                  unfold LSt.crashed
                  rw [List.take_range]
                rw [hcr] at hJ2
                have hob := HOd.out.kin ho2 HS.out
                have hSb : Hid (∀ x ∈ S2, w.heap.size ≤ x) := fun x hx => by
                  rcases hK2 x hx with h | h
                  · exact HS.out x h
                  · have := HOd.out.size; omega
                have HOe := Lib.hid hob
                have hkl2 := range_short k2 (by omega)
                clear hJ hK2 hF2 ho2 hcr hob hkl hp1 hsf hp2 HOc HO HOd
                go_wp2_with fail
                refine (Log.done_ok S2 F2 G (besideP 30 1) _ 29 we hJ2 rfl (by rw [besideP_len]; omega) (besides_r _ 29 (by simp; omega)) (by show (-1 : Int) ≠ 0; omega) (by show (-1 : Int) ≤ -1; omega) (by show (-1 : Int) ≤ _; omega) (by simp; omega) (by show (textOf (List.range k2)).length ≤ 1000; omega)).mono ?_
                rintro e wf ⟨rfl, S3, hJ3, hK3, ho3⟩
                have hps : LSt.push ⟨List.range k2, textOf (List.range k2), (textOf (List.range k2)).length, -1, false⟩ 29 = ⟨List.range k2 ++ [29], textOf (List.range k2) ++ lineOf 29, (textOf (List.range k2)).length, -1, false⟩ := rfl
                rw [hps] at hJ3
                have hob := HOe.out.kin ho3 hSb.out
                have hSc : Hid (∀ x ∈ S3, w.heap.size ≤ x) := fun x hx => by
                  rcases hK3 x hx with h | h
                  · exact hSb.out x h
                  · have := HOe.out.size; omega
                have HOf := Lib.hid hob
                clear hJ2 hK3 ho3 hps hob HOe hSb
                go_wp2_with fail
                refine (Log.sync S3 F2 G (besideP 30 1) _ wf hJ3 rfl (by show (-1 : Int) ≠ 0; omega) (by show (-1 : Int) ≤ -1; omega) (by show (-1 : Int) ≤ _; omega)).mono ?_
                rintro e wg ⟨rfl, hJ4, ho4⟩
                have HOg := Lib.hid (HOf.out.trans ho4 (fun x hx hl => by simp at hx; subst hx; have := hSc.out _ (logIs_g hJ3); omega))
                clear hJ3 ho4 HOf
                go_wp2_with fail
                refine (Log.all S3 F2 G (besideP 30 1) _ wg hJ4 (by show (List.range k2 ++ [29]).length ≤ 1000; simp; omega)).mono ?_
                rintro e wh ⟨v, rfl, hI, ho5⟩
                have hI : Ints wh wg.heap.size v (natL (List.range k2 ++ [29])) := hI
                have hlen : (natL (List.range k2 ++ [29])).length = k2 + 1 := by simp [natL]
                obtain ⟨g, cap, rfl, _⟩ := hI.sized (k2 + 1) hlen (by omega)
                have cL := hI.cell k2 (by rw [hlen]; omega)
                rw [show nth (natL (List.range k2 ++ [29])) k2 = 29 by simp [nth, natL]] at cL
                have HOh := Lib.hid (HOg.out.trans ho5 (by simp))
                have hwr : IntKind.i64.wrap ((k2 : Int) + 1 - 1) = (k2 : Int) := by rw [IntWalk.i64_in _ (by omega)]; omega
                clear hI hJ4 ho5 HOg hlen
                go_wp2_with fail
                go_ret
                exact ⟨by simp, HOh.out.below (Nat.le_refl _) (by simp)⟩
      · have hor : a0 < 0 ∨ (0 ≤ a0 ∧ 20 < a0) ∨ (0 ≤ a0 ∧ a0 ≤ 20 ∧ a1 < 0) ∨ (0 ≤ a0 ∧ a0 ≤ 20 ∧ 0 ≤ a1 ∧ 20 < a1) := by omega
        clear hin bd0 bd1 bd2
        rcases hor with h | ⟨h, h2⟩ | ⟨h, h2, h3⟩ | ⟨h, h2, h3, h4⟩
        all_goals
          go_wp2
          go_ret
          exact ⟨rfl, hoo.below (Nat.le_refl _) (by simp)⟩

end Go.Proofs.YtloojhnhialenaaDoor.logStops
