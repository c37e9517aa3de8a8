/-
  The statement YardTells: the yard tells what it should of any jobs. No condition but the listed variable's.
-/
import Derived.Test.YtmjicogmgkeilaaDoorFrame
import Derived.Test.YtmjicogmgkeilaaDoorTellFrame
import Derived.Test.YtmjicogmgkeilaaDoorRefYard
import Derived.Test.YtmjicogmgkeilaaDoorTold
import Derived.Test.YtmjicogmgkeilaaDoorSame
namespace Go.Proofs.YtmjicogmgkeilaaDoor.yardTells
open Go.ChangeShapes Go.WideShapes Go.ChangeAt Go.RowKit
open Go.ChangeMaps (open_string shut_string)
set_option linter.unusedVariables false

set_option maxHeartbeats 16000000 in
set_option maxRecDepth 100000 in
theorem walk (v0 : Value) (l0 : List (Int × Int)) (a1 : Int) (w : World) (hglob : Glob w) (w0 : InJobs w v0 l0) (w1 : (Lit.int .i64 a1).wf = true) :
    Calls Tryd.prog 10 #[v0, .int .i64 a1] w fun e w' => e = .returned (.bool true) ∧ Below w.heap.size w w' := by
  have bd1 := bounds_i64 w1
  have HG := Lib.hid hglob
  have HJ0 := Lib.hid w0
  obtain ⟨a, cap, rfl, h1, h2, _, _⟩ := w0.2
  clear w1 hglob w0
  go_enter Tryd.func10, Tryd.ntmps10
  by_cases h6 : l0.length ≤ 6
  · by_cases hok : ∀ j ∈ l0, jobOk j
    · have Hok := Lib.hid hok
      clear hok
      by_cases hm : a1 < 0 ∨ 1000 < a1
      · have Hm := Lib.hid hm
        by_cases h0 : l0.length = 0
        · obtain rfl : l0 = [] := List.eq_nil_of_length_eq_zero h0
          simp only [List.length_nil] at h1 HJ0 ⊢
          clear h0 h6
          have hm2 : a1 < 0 ∨ (0 ≤ a1 ∧ 1000 < a1) := by omega
          clear hm
          rcases hm2 with hm | ⟨hm0, hm⟩
          all_goals
            go_wp2_with fail
            refine (ref_jobs _ [] _ HJ0.out (by simp) 0 (.inl ⟨rfl, by simp⟩)).mono ?_
            rintro e wz ⟨rfl, rfl⟩
            go_wp2_with fail
            refine (yard_check_ok _ [] _ HJ0.out (by simp) (by simp)).mono ?_
            rintro e w2 ⟨rfl, ho2⟩
            have H2 := Lib.hid ho2
            clear ho2
            go_wp2_with fail
            refine (same_nil 0 _ true rfl).mono ?_
            rintro e w3 ⟨rfl, rfl⟩
            have H3 := H2
            go_wp2_with fail
            refine (yard_serve_out _ [] a1 _ (HJ0.out.only H3.out) (by simp) (by simp) Hm.out).mono ?_
            rintro e w4 ⟨rfl, ho4⟩
            have H4 := Lib.hid (H3.out.trans ho4 (by simp))
            clear ho4 H3
            go_wp2_with fail
            refine (same_err 1 1 _ (HG.out.only H4.out) true rfl).mono ?_
            rintro e w5 ⟨rfl, ho5⟩
            have H5 := Lib.hid (H4.out.trans ho5 (by simp))
            clear ho5 H4 H2
            go_wp2_with fail
            refine (same_ints _ _ [] _ (.inl ⟨rfl, .inl rfl⟩) (.inl ⟨rfl, .inl rfl⟩) (by simp)).mono ?_
            rintro e w6 ⟨rfl, k6, hk6⟩
            have H6 : Hid (Only [] w w6) := Lib.hid (by rw [hk6]; exact H5.out.drewN k6)
            clear hk6 H5
            go_wp2_with fail
            refine (same_jobs _ _ 0 (fun _ => 0) (fun _ => 0) 0 0 _ (World.ownsRow_nil _ _ _ _) (World.ownsRow_nil _ _ _ _) (by omega)).mono ?_
            rintro e w7 ⟨rfl, k7, hk7⟩
            have H7 : Hid (Only [] w w7) := Lib.hid (by rw [hk7]; exact H6.out.drewN k7)
            clear hk7 H6
            go_wp2_with fail
            go_loopw [16, 17] (fun vs vi wr => vs = .int .i64 0 ∧ vi = .int .i64 0 ∧ w7 = wr) (fun _ _ _ => 0)
            case atStart => exact ⟨rfl, rfl, rfl⟩
            case round =>
              obtain ⟨rfl, rfl, rfl⟩ := hrel
              go_wp2_with fail
              go_loopw [8, 18, 19] (fun vw vo vi wr => vw = .slice none 0 0 ∧ vo = .int .i64 a1 ∧ vi = .int .i64 0 ∧ w7 = wr) (fun _ _ _ _ => 0)
              case atStart => exact ⟨rfl, rfl, rfl, rfl⟩
              case round =>
                obtain ⟨rfl, rfl, rfl, rfl⟩ := hrel
                go_wp2_with fail
                go_loopw [21] (fun vi wr => vi = .int .i64 0 ∧ w7 = wr) (fun _ _ => 0)
                case atStart => exact ⟨rfl, rfl⟩
                case round =>
                  obtain ⟨rfl, rfl⟩ := hrel
                  go_wp2_with fail
                  refine (yard_shares_none _ a1 _ (HJ0.out.only H7.out)).mono ?_
                  rintro e w8 ⟨rfl, ho8⟩
                  have H8 := Lib.hid (H7.out.trans ho8 (by simp))
                  clear ho8
                  go_wp2_with fail
                  refine (same_err 5 5 _ (HG.out.only H8.out) true rfl).mono ?_
                  rintro e w9 ⟨rfl, ho9⟩
                  have H9 := Lib.hid (H8.out.trans ho9 (by simp))
                  clear ho9
                  go_wp2_with fail
                  refine (same_ints _ _ [] _ (.inl ⟨rfl, .inl rfl⟩) (.inl ⟨rfl, .inl rfl⟩) (by simp)).mono ?_
                  rintro e w10 ⟨rfl, k10, hk10⟩
                  have H10 : Hid (Only [] w w10) := Lib.hid (by rw [hk10]; exact H9.out.drewN k10)
                  clear hk10
                  go_wp2
                  go_ret
                  exact ⟨rfl, H10.out.below (Nat.le_refl _) (by simp)⟩
        · have hpos : 0 < l0.length := by omega
          have hz : ((l0.length : Int) == 0) = false := beq_false_of_ne (by omega)
          clear h0
          have hm2 : a1 < 0 ∨ (0 ≤ a1 ∧ 1000 < a1) := by omega
          clear hm
          rcases hm2 with hm | ⟨hm0, hm⟩
          all_goals
            go_wp2_with fail
            refine (ref_jobs _ l0 _ HJ0.out h6 0 (.inl ⟨rfl, Hok.out⟩)).mono ?_
            rintro e wz ⟨rfl, rfl⟩
            go_wp2_with fail
            refine (yard_check_ok _ l0 _ HJ0.out h6 Hok.out).mono ?_
            rintro e w2 ⟨rfl, ho2⟩
            have H2 := Lib.hid ho2
            clear ho2
            go_wp2_with fail
            refine (same_nil 0 _ true rfl).mono ?_
            rintro e w3 ⟨rfl, rfl⟩
            have H3 := H2
            go_wp2_with fail
            refine (yard_serve_out _ l0 a1 _ (HJ0.out.only H3.out) h6 Hok.out Hm.out).mono ?_
            rintro e w4 ⟨rfl, ho4⟩
            have H4 := Lib.hid (H3.out.trans ho4 (by simp))
            clear ho4 H3
            go_wp2_with fail
            refine (same_err 1 1 _ (HG.out.only H4.out) true rfl).mono ?_
            rintro e w5 ⟨rfl, ho5⟩
            have H5 := Lib.hid (H4.out.trans ho5 (by simp))
            clear ho5 H4 H2
            go_wp2_with fail
            refine (same_ints _ _ [] _ (.inl ⟨rfl, .inl rfl⟩) (.inl ⟨rfl, .inl rfl⟩) (by simp)).mono ?_
            rintro e w6 ⟨rfl, k6, hk6⟩
            have H6 : Hid (Only [] w w6) := Lib.hid (by rw [hk6]; exact H5.out.drewN k6)
            clear hk6 H5
            go_wp2_with fail
            refine (same_jobs _ _ 0 (fun _ => 0) (fun _ => 0) 0 0 _ (World.ownsRow_nil _ _ _ _) (World.ownsRow_nil _ _ _ _) (by omega)).mono ?_
            rintro e w7 ⟨rfl, k7, hk7⟩
            have H7 : Hid (Only [] w w7) := Lib.hid (by rw [hk7]; exact H6.out.drewN k7)
            clear hk7 H6
            go_wp2_with fail
            go_loopw [16, 17] (fun vs vi wr => vs = .int .i64 0 ∧ vi = .int .i64 0 ∧ w7 = wr) (fun _ _ _ => 0)
            case atStart => exact ⟨rfl, rfl, rfl⟩
            case round =>
              obtain ⟨rfl, rfl, rfl⟩ := hrel
              go_wp2_with fail
              go_loopw [8, 18, 19] (fun vw vo vi wr => vw = .slice none 0 0 ∧ vo = .int .i64 a1 ∧ vi = .int .i64 0 ∧ w7 = wr) (fun _ _ _ _ => 0)
              case atStart => exact ⟨rfl, rfl, rfl, rfl⟩
              case round =>
                obtain ⟨rfl, rfl, rfl, rfl⟩ := hrel
                go_wp2_with fail
                go_loopw [21] (fun vi wr => vi = .int .i64 0 ∧ w7 = wr) (fun _ _ => 0)
                case atStart => exact ⟨rfl, rfl⟩
                case round =>
                  obtain ⟨rfl, rfl⟩ := hrel
                  go_wp2_with fail
                  refine (yard_shares_out _ l0 a1 _ (HJ0.out.only H7.out) (by omega) h6 Hok.out Hm.out).mono ?_
                  rintro e w8 ⟨rfl, ho8⟩
                  have H8 := Lib.hid (H7.out.trans ho8 (by simp))
                  clear ho8
                  go_wp2_with fail
                  refine (same_err 1 1 _ (HG.out.only H8.out) true rfl).mono ?_
                  rintro e w9 ⟨rfl, ho9⟩
                  have H9 := Lib.hid (H8.out.trans ho9 (by simp))
                  clear ho9
                  go_wp2_with fail
                  refine (same_ints _ _ [] _ (.inl ⟨rfl, .inl rfl⟩) (.inl ⟨rfl, .inl rfl⟩) (by simp)).mono ?_
                  rintro e w10 ⟨rfl, k10, hk10⟩
                  have H10 : Hid (Only [] w w10) := Lib.hid (by rw [hk10]; exact H9.out.drewN k10)
                  clear hk10
                  go_wp2
                  go_ret
                  exact ⟨rfl, H10.out.below (Nat.le_refl _) (by simp)⟩
      · have hin0 : 0 ≤ a1 ∧ a1 ≤ 1000 := by omega
        obtain ⟨most, rfl⟩ := Int.eq_ofNat_of_zero_le (show 0 ≤ a1 by omega)
        have hm3 : most ≤ 1000 := by omega
        clear hm
        obtain ⟨nn, hnn⟩ : ∃ nn, l0.length = nn := ⟨_, rfl⟩
        obtain ⟨W, S0, hparts⟩ : ∃ W S0 : Nat → Nat, ∀ i, i < nn → l0[i]?.getD (0, 0) = ((W i : Int), (S0 i : Int)) ∧ 1 ≤ W i ∧ W i ≤ 20 ∧ S0 i ≤ 10000 := ⟨wtOf l0, waOf l0, fun i hi => ok_parts Hok.out i (by omega)⟩
        have HP := Lib.hid hparts
        have HW : Hid (∀ i, i < nn → 1 ≤ W i ∧ W i ≤ 20) := Lib.hid (fun i hi => ⟨(hparts i hi).2.1, (hparts i hi).2.2.1⟩)
        have HNN := Lib.hid hnn
        have h6' := h6
        rw [hnn] at h1 h6 HJ0 ⊢
        have HCell : Hid (∀ i, i < nn → ∃ b off, a = some ⟨b, off, none⟩ ∧ w.cell? ⟨b, off + i * 2, none⟩ = some (.int .i64 (W i))) := by
          show ∀ _, _
          intro i hi
          obtain ⟨a9, cap9, he, _, _, _, h3⟩ := HJ0.out.2
          injection he with he1 _ _
          subst he1
          obtain ⟨b, off, e, k0, _⟩ := h3 i (by rw [hnn]; exact hi)
          simp only [(hparts i hi).1] at k0
          exact ⟨b, off, e, k0⟩
        have H6' := Lib.hid h6'
        clear hparts hnn h6'
        go_wp2_with fail
        refine (ref_jobs _ l0 _ HJ0.out H6'.out 0 (.inl ⟨rfl, Hok.out⟩)).mono ?_
        rintro e wz ⟨rfl, rfl⟩
        go_wp2_with fail
        refine (yard_check_ok _ l0 _ HJ0.out H6'.out Hok.out).mono ?_
        rintro e w2 ⟨rfl, ho2⟩
        have H2 := Lib.hid ho2
        clear ho2
        go_wp2_with fail
        refine (same_nil 0 _ true rfl).mono ?_
        rintro e w3 ⟨rfl, rfl⟩
        go_wp2_with fail
        refine (ref_serve _ l0 nn W S0 most _ (HJ0.out.only H2.out) HNN.out h6 (fun i hi => (HP.out i hi).1) HW.out (fun i hi => (HP.out i hi).2.2.2) hm3).mono ?_
        rintro e w4 ⟨vo1, vl1, rfl, hI1, hJ1, ho4⟩
        have H4 := Lib.hid (H2.out.trans ho4 (by simp))
        have hI1 := Lib.hid hI1.reads
        have hJ1 := Lib.hid hJ1
        clear ho4 H2
        go_wp2_with fail
        refine (yard_serve _ l0 nn W S0 most _ (HJ0.out.only H4.out) HNN.out h6 (fun i hi => (HP.out i hi).1) Hok.out HW.out (fun i hi => (HP.out i hi).2.2.2) hm3).mono ?_
        rintro e w5 ⟨r, vo2, vl2, rfl, hs, hI2, hJ2, ho5⟩
        rw [iter_one hs (iter_end (Nat.zero_le _) (fun j hj => (HW.out j hj).1))] at hI2 hJ2
        have H5 := Lib.hid (H4.out.trans ho5 (by simp))
        have hI1 := Lib.hid (hI1.out.same ho5)
        have hJ1 := Lib.hid (hJ1.out.only ho5 (by simp))
        have hI2 := Lib.hid hI2.reads
        have hJ2 := Lib.hid hJ2
        have hlen := Lib.hid (iter_most (most := most) (W := W) (n := nn) (p := ([], S0)) (most + 1) (Nat.zero_le _))
        clear ho5 H4 hs
        go_wp2_with fail
        refine (same_nil 0 _ true rfl).mono ?_
        rintro e w6 ⟨rfl, rfl⟩
        go_wp2_with fail
        refine (same_ints _ _ _ _ hI2.out hI1.out (by have := hlen.out; omega)).mono ?_
        rintro e w7 ⟨rfl, k7, hk7⟩
        have hq7 : Only [] w5 w7 := by rw [hk7]; exact (Only.refl [] w5).drewN k7
        have H7 := Lib.hid (H5.out.trans hq7 (by simp))
        have hJ1 := Lib.hid (hJ1.out.only hq7 (by simp))
        have hJ2 := Lib.hid (hJ2.out.only hq7 (by simp))
        clear hk7 hq7 H5 hI1 hI2 hlen
        go_wp2_with fail
        refine (same_jobs _ _ nn _ _ _ _ _ hJ2.out hJ1.out (by omega)).mono ?_
        rintro e w8 ⟨rfl, k8, hk8⟩
        have H8 : Hid (Only [] w w8) := Lib.hid (by rw [hk8]; exact H7.out.drewN k8)
        clear hk8 H7 hJ1 hJ2
        by_cases h0 : nn = 0
        · subst h0
          obtain rfl : l0 = [] := List.eq_nil_of_length_eq_zero HNN.out
          clear HCell HW HP
          go_wp2_with fail
          go_loopw [16, 17] (fun vs vi wr => vs = .int .i64 0 ∧ vi = .int .i64 0 ∧ w8 = wr) (fun _ _ _ => 0)
          case atStart => exact ⟨rfl, rfl, rfl⟩
          case round =>
            obtain ⟨rfl, rfl, rfl⟩ := hrel
            go_wp2_with fail
            go_loopw [8, 18, 19] (fun vw vo vi wr => vw = .slice none 0 0 ∧ vo = .int .i64 most ∧ vi = .int .i64 0 ∧ w8 = wr) (fun _ _ _ _ => 0)
            case atStart => exact ⟨rfl, rfl, rfl, rfl⟩
            case round =>
              obtain ⟨rfl, rfl, rfl, rfl⟩ := hrel
              go_wp2_with fail
              go_loopw [21] (fun vi wr => vi = .int .i64 0 ∧ w8 = wr) (fun _ _ => 0)
              case atStart => exact ⟨rfl, rfl⟩
              case round =>
                obtain ⟨rfl, rfl⟩ := hrel
                go_wp2_with fail
                refine (yard_shares_none _ most _ (HJ0.out.only H8.out)).mono ?_
                rintro e w18 ⟨rfl, ho18⟩
                have H18 := Lib.hid (H8.out.trans ho18 (by simp))
                clear ho18
                go_wp2_with fail
                refine (same_err 5 5 _ (HG.out.only H18.out) true rfl).mono ?_
                rintro e w9 ⟨rfl, ho9⟩
                have H9 := Lib.hid (H18.out.trans ho9 (by simp))
                clear ho9
                go_wp2_with fail
                refine (same_ints _ _ [] _ (.inl ⟨rfl, .inl rfl⟩) (.inl ⟨rfl, .inl rfl⟩) (by simp)).mono ?_
                rintro e w10 ⟨rfl, k10, hk10⟩
                have H10 : Hid (Only [] w w10) := Lib.hid (by rw [hk10]; exact H9.out.drewN k10)
                clear hk10
                go_wp2
                go_ret
                exact ⟨rfl, H10.out.below (Nat.le_refl _) (by simp)⟩
        · have hpos : 0 < nn := by omega
          have hz : ((nn : Int) == 0) = false := beq_false_of_ne (by omega)
          have hz2 : (nn == 0) = false := beq_false_of_ne (by omega)
          clear h0
          have hTp : 1 ≤ sumTo W nn := sumTo_pos hpos (fun i hi => (HW.out i hi).1)
          have hTl : sumTo W nn ≤ 120 := Nat.le_trans (sumTo_le (fun i hi => (HW.out i hi).2)) (by omega)
          obtain ⟨T, hT⟩ : ∃ T, sumTo W nn = T := ⟨_, rfl⟩
          have HT := Lib.hid hT
          rw [hT] at hTp hTl
          clear hT
          go_wp2_with fail
          go_loopw [16, 17] (fun vs vi wr => ∃ i : Nat, i ≤ nn ∧ vs = .int .i64 (sumTo W i) ∧ vi = .int .i64 i ∧ w8 = wr) (fun _ vi _ => nn - (intOf vi).toNat)
          case atStart => exact ⟨0, Nat.zero_le _, rfl, rfl, rfl⟩
          case round =>
            obtain ⟨i, hi, rfl, rfl, rfl⟩ := hrel
            by_cases hin : i < nn
            · obtain ⟨b, off, rfl, k0⟩ := HCell.out i hin
              have c0 := (H8.out.cell (p := ⟨b, _, none⟩) (cell_lt k0) (by simp)).trans k0
              have hmono : sumTo W i ≤ T := by rw [← HT.out]; exact sumTo_mono hi
              have hstep : Hid (sumTo W (i + 1) = sumTo W i + W i) := rfl
              obtain ⟨s, hs⟩ : ∃ s, sumTo W i = s := ⟨_, rfl⟩
              rw [hs] at hmono hstep ⊢
              have hWi := HW.out i hin
              clear k0 hs
              go_wp2
              go_roundw
              case rel => exact ⟨i + 1, by omega, by rw [hstep.out]; go_num, by go_num, by trivial⟩
              case measure => (simp [intOf]; try omega)
            · obtain rfl : i = nn := by omega
              rw [HT.out]
              go_wp2_with fail
              go_loopw [8, 18, 19] (fun vo vl vi wq => ∃ j : Nat, j ≤ i ∧ vi = .int .i64 j ∧ Ints wq w8.heap.size vo (parts most T W j 0) ∧ vl = .int .i64 ((most : Int) - (sumTo (part most T W) j : Nat)) ∧ Only [] w8 wq) (fun _ _ vi _ => i - (intOf vi).toNat)
              case atStart => exact ⟨0, Nat.zero_le _, rfl, Ints.nil _ _, by simp [sumTo], Only.refl _ _⟩
              case round =>
                obtain ⟨wo, rfl⟩ : ∃ wo : World, wo = wr := ⟨_, rfl⟩
                obtain ⟨j, hj, rfl, hI, rfl, hoq⟩ := hrel
                by_cases hjn : j < i
                · obtain ⟨b, off, rfl, k0⟩ := HCell.out j hjn
                  have c0 := ((H8.out.trans hoq (by simp)).cell (p := ⟨b, _, none⟩) (cell_lt k0) (by simp)).trans k0
                  have hWj := HW.out j hjn
                  have hpl := part_le most T W j hm3 hWj.2
                  have hpush := parts_push most T W j
                  have hstep : Hid (sumTo (part most T W) (j + 1) = sumTo (part most T W) j + part most T W j) := rfl
                  have hsl : sumTo (part most T W) (j + 1) ≤ most := by
                    refine Nat.le_trans (sumTo_mono (show j + 1 ≤ i by omega)) ?_
                    have := (part_left most W i (by rw [HT.out]; omega)).1
                    rw [HT.out] at this; exact this
                  rw [hstep.out] at hsl
                  obtain ⟨s, hs⟩ : ∃ s, sumTo (part most T W) j = s := ⟨_, rfl⟩
                  have hdiv : (most : Int) * (W j : Int) / (T : Int) = (part most T W j : Nat) := by unfold part; simp
                  have hmul : (most : Int) * (W j : Int) ≤ 20000 := by rw [← Int.natCast_mul]; omega
                  have hmul0 : 0 ≤ (most : Int) * (W j : Int) := by rw [← Int.natCast_mul]; omega
                  obtain ⟨q, hq⟩ : ∃ q, part most T W j = q := ⟨_, rfl⟩
                  rw [hs] at hstep hsl ⊢
                  rw [hq] at hdiv hpush hpl hstep hsl
                  have hq2 := hpl.1
                  have Hpush := Lib.hid hpush
                  obtain ⟨oa, ocap, rfl, _⟩ := hI.opt
                  rw [parts_len] at hI ⊢
                  have hpl2 : Hid ((parts most T W j 0).length = j) := parts_len _ _ _ _ _
                  have hsz9 : w8.heap.size ≤ wo.heap.size := hoq.size
                  clear k0 hs hq hpl hpush
                  go_wp2_with (at_builtin; refine wpList_push rfl (.tmp 112) (.tmp 114) rfl _ w8.heap.size _ _ _ q j hI hpl2.out (by omega) hsz9 rfl rfl ((Only.refl [] wo).alloc _) (World.cell?_alloc_at _ _ _ _ rfl) ?_; intro g3 cap3 w3 hI3 hO3 hK3)
                  rw [Hpush.out] at hI3
                  have ho3 := Lib.hid (hoq.pushed hI (Nat.le_refl _) hO3)
                  go_roundw
                  case rel => exact ⟨j + 1, by omega, by go_num, hI3, by rw [hstep.out]; go_num, ho3.out⟩
                  case measure => (simp [intOf]; try omega)
                · obtain rfl : j = i := by omega
                  obtain ⟨hp1, hp2⟩ := part_left most W j (by rw [HT.out]; omega)
                  rw [HT.out] at hp1 hp2
                  have hsh : Hid ((List.range j).map (fun i => (shareOf most j W i : Int)) = parts most T W j (most - sumTo (part most T W) j)) := by
                    show _ = _
                    unfold shareOf parts
                    rw [HT.out]
                  obtain ⟨s, hs⟩ : ∃ s, sumTo (part most T W) j = s := ⟨_, rfl⟩
                  rw [hs] at hp1 hp2 hsh ⊢
                  obtain ⟨d, hdd⟩ : ∃ d, most = s + d := ⟨most - s, by omega⟩
                  have hd : ((most : Nat) : Int) - (s : Int) = (d : Int) := by omega
                  have hd2 : Hid (most - s = d) := by show _ = _; omega
                  rw [hd2.out] at hsh hp2
                  rw [hd]
                  obtain ⟨oa, ocap, rfl, _⟩ := hI.opt
                  have hlen9 : Hid ((parts most T W j 0).length = j) := parts_len _ _ _ _ _
                  rw [hlen9.out] at hI ⊢
                  obtain ⟨g, cap9, hge, hgb, hgl⟩ := hI.sized j hlen9.out hpos
                  injection hge with hge1 hge2 hge3
                  subst hge1
                  subst hge3
                  clear hs hd hdd
                  go_wp2_with fail
                  go_loopw [21] (fun vi wz => ∃ c : Nat, c ≤ d ∧ vi = .int .i64 c ∧ Ints wz w8.heap.size (.slice (some ⟨g, 0, none⟩) j ocap) (parts most T W j c) ∧ Only [] w8 wz) (fun vi _ => d - (intOf vi).toNat)
                  case atStart => exact ⟨0, Nat.zero_le _, rfl, hI, hoq⟩
                  case round =>
                    obtain ⟨c, hc, rfl, hI3, ho3⟩ := hrel
                    clear hI hoq
                    by_cases hcd : c < d
                    · have hcj : c < j := by omega
                      have hcell := hI3.cell c (by rw [parts_len]; exact hcj)
                      have hfz := hI3.free c
                      have hWc := HW.out c hcj
                      have hpl := part_le most T W c hm3 hWc.2
                      rw [parts_nth _ _ _ _ _ _ hcj, if_neg (Nat.lt_irrefl c), Nat.add_zero] at hcell
                      have hset := Lib.hid (hI3.set c ((part most T W c : Nat) + 1 : Int))
                      rw [parts_set _ _ _ _ _ hcj] at hset
                      have hos := Lib.hid (ho3.setCell (p := ⟨g, c, none⟩) (fun hlt => by simp at hlt; omega) (.int .i64 ((part most T W c : Nat) + 1 : Int)))
                      obtain ⟨q, hq⟩ : ∃ q, part most T W c = q := ⟨_, rfl⟩
                      rw [hq] at hcell hset hos hpl
                      have hq2 := hpl.1
                      clear hq hpl hI3 ho3
                      go_wp2
                      go_roundw
                      case rel => exact ⟨c + 1, by omega, by go_num, hset.out, hos.out⟩
                      case measure => (simp [intOf]; try omega)
                    · obtain rfl : c = d := by omega
                      have H17 := Lib.hid (H8.out.trans ho3 (by simp))
                      have hr17 := Lib.hid hI3.reads
                      clear hI3 ho3
                      have hend : c < j ∨ c = j := by omega
                      rcases hend with hend | hend
                      all_goals
                        go_wp2_with fail
                        refine (yard_shares _ l0 j W S0 most _ (HJ0.out.only H17.out) HNN.out hpos h6 (fun i hi => (HP.out i hi).1) Hok.out HW.out hm3).mono ?_
                        rintro e w18 ⟨vs, rfl, hIs, ho18⟩
                        rw [hsh.out] at hIs
                        have H18 := Lib.hid (H17.out.trans ho18 (by simp))
                        have hr18 := Lib.hid (hr17.out.same ho18)
                        have hIs := Lib.hid hIs.reads
                        clear ho18
                        go_wp2_with fail
                        refine (same_nil 0 _ true rfl).mono ?_
                        rintro e w9 ⟨rfl, rfl⟩
                        go_wp2_with fail
                        refine (same_ints _ _ _ _ hIs.out hr18.out (by rw [parts_len]; omega)).mono ?_
                        rintro e w10 ⟨rfl, k10, hk10⟩
                        have H10 : Hid (Only [] w w10) := Lib.hid (by rw [hk10]; exact H18.out.drewN k10)
                        clear hk10
                        go_wp2
                        go_ret
                        exact ⟨rfl, H10.out.below (Nat.le_refl _) (by simp)⟩
    · have Hbad := Lib.hid hok
      clear hok
      have hpos : 0 < l0.length := by
        rcases Nat.eq_zero_or_pos l0.length with h | h
        · have := List.eq_nil_of_length_eq_zero h
          subst this
          exact absurd (by simp) Hbad.out
        · exact h
      go_wp2_with fail
      refine (ref_jobs _ l0 _ HJ0.out h6 1 (.inr ⟨rfl, Hbad.out⟩)).mono ?_
      rintro e wz ⟨rfl, rfl⟩
      go_wp2_with fail
      refine (yard_check_bad _ l0 _ HJ0.out h6 Hbad.out).mono ?_
      rintro e w2 ⟨rfl, ho2⟩
      have H2 := Lib.hid ho2
      clear ho2
      go_wp2_with fail
      refine (same_err 1 1 _ (HG.out.only H2.out) true rfl).mono ?_
      rintro e w3 ⟨rfl, ho3⟩
      have H3 := Lib.hid (H2.out.trans ho3 (by simp)); clear ho3
      go_wp2_with fail
      refine (yard_serve_bad _ l0 a1 _ (HJ0.out.only H3.out) h6 Hbad.out).mono ?_
      rintro e w4 ⟨rfl, ho4⟩
      have H4 := Lib.hid (H3.out.trans ho4 (by simp))
      clear ho4 H3
      go_wp2_with fail
      refine (same_err 1 1 _ (HG.out.only H4.out) true rfl).mono ?_
      rintro e w5 ⟨rfl, ho5⟩
      have H5 := Lib.hid (H4.out.trans ho5 (by simp))
      clear ho5 H4 H2
      go_wp2_with fail
      refine (same_ints _ _ [] _ (.inl ⟨rfl, .inl rfl⟩) (.inl ⟨rfl, .inl rfl⟩) (by simp)).mono ?_
      rintro e w6 ⟨rfl, k6, hk6⟩
      have H6 : Hid (Only [] w w6) := Lib.hid (by rw [hk6]; exact H5.out.drewN k6)
      clear hk6 H5
      go_wp2_with fail
      refine (same_jobs _ _ 0 (fun _ => 0) (fun _ => 0) 0 0 _ (World.ownsRow_nil _ _ _ _) (World.ownsRow_nil _ _ _ _) (by omega)).mono ?_
      rintro e w7 ⟨rfl, k7, hk7⟩
      have H7 : Hid (Only [] w w7) := Lib.hid (by rw [hk7]; exact H6.out.drewN k7)
      clear hk7 H6
      go_wp2_with fail
      go_loopw [16, 17] (fun vs vi wr => vs = .int .i64 0 ∧ vi = .int .i64 0 ∧ w7 = wr) (fun _ _ _ => 0)
      case atStart => exact ⟨rfl, rfl, rfl⟩
      case round =>
        obtain ⟨rfl, rfl, rfl⟩ := hrel
        go_wp2_with fail
        go_loopw [8, 18, 19] (fun vw vo vi wr => vw = .slice none 0 0 ∧ vo = .int .i64 a1 ∧ vi = .int .i64 0 ∧ w7 = wr) (fun _ _ _ _ => 0)
        case atStart => exact ⟨rfl, rfl, rfl, rfl⟩
        case round =>
          obtain ⟨rfl, rfl, rfl, rfl⟩ := hrel
          go_wp2_with fail
          go_loopw [21] (fun vi wr => vi = .int .i64 0 ∧ w7 = wr) (fun _ _ => 0)
          case atStart => exact ⟨rfl, rfl⟩
          case round =>
            obtain ⟨rfl, rfl⟩ := hrel
            go_wp2_with fail
            refine (yard_shares_bad _ l0 a1 _ (HJ0.out.only H7.out) h6 Hbad.out).mono ?_
            rintro e w8 ⟨rfl, ho8⟩
            have H8 := Lib.hid (H7.out.trans ho8 (by simp))
            clear ho8
            go_wp2_with fail
            refine (same_err 1 1 _ (HG.out.only H8.out) true rfl).mono ?_
            rintro e w9 ⟨rfl, ho9⟩
            have H9 := Lib.hid (H8.out.trans ho9 (by simp))
            clear ho9
            go_wp2_with fail
            refine (same_ints _ _ [] _ (.inl ⟨rfl, .inl rfl⟩) (.inl ⟨rfl, .inl rfl⟩) (by simp)).mono ?_
            rintro e w10 ⟨rfl, k10, hk10⟩
            have H10 : Hid (Only [] w w10) := Lib.hid (by rw [hk10]; exact H9.out.drewN k10)
            clear hk10
            go_wp2
            go_ret
            exact ⟨rfl, H10.out.below (Nat.le_refl _) (by simp)⟩
  · have hpos : 0 < l0.length := by omega
    go_wp2_with fail
    refine (ref_jobs_full _ l0 _ HJ0.out (by omega)).mono ?_
    rintro e wz ⟨rfl, rfl⟩
    go_wp2_with fail
    refine (yard_check_full _ l0 _ HJ0.out (by omega)).mono ?_
    rintro e w2 ⟨rfl, rfl⟩
    have H2 := Lib.hid (Only.refl [] w)
    go_wp2_with fail
    refine (same_err 4 4 _ (HG.out.only H2.out) true rfl).mono ?_
    rintro e w3 ⟨rfl, ho3⟩
    have H3 := Lib.hid (H2.out.trans ho3 (by simp)); clear ho3
    go_wp2_with fail
    refine (yard_serve_full _ l0 a1 _ (HJ0.out.only H3.out) (by omega)).mono ?_
    rintro e w4 ⟨rfl, ho4⟩
    have H4 := Lib.hid (H3.out.trans ho4 (by simp))
    clear ho4 H3
    go_wp2_with fail
    refine (same_err 4 4 _ (HG.out.only H4.out) true rfl).mono ?_
    rintro e w5 ⟨rfl, ho5⟩
    have H5 := Lib.hid (H4.out.trans ho5 (by simp))
    clear ho5 H4 H2
    go_wp2_with fail
    refine (same_ints _ _ [] _ (.inl ⟨rfl, .inl rfl⟩) (.inl ⟨rfl, .inl rfl⟩) (by simp)).mono ?_
    rintro e w6 ⟨rfl, k6, hk6⟩
    have H6 : Hid (Only [] w w6) := Lib.hid (by rw [hk6]; exact H5.out.drewN k6)
    clear hk6 H5
    go_wp2_with fail
    refine (same_jobs _ _ 0 (fun _ => 0) (fun _ => 0) 0 0 _ (World.ownsRow_nil _ _ _ _) (World.ownsRow_nil _ _ _ _) (by omega)).mono ?_
    rintro e w7 ⟨rfl, k7, hk7⟩
    have H7 : Hid (Only [] w w7) := Lib.hid (by rw [hk7]; exact H6.out.drewN k7)
    clear hk7 H6
    go_wp2_with fail
    go_loopw [16, 17] (fun vs vi wr => vs = .int .i64 0 ∧ vi = .int .i64 0 ∧ w7 = wr) (fun _ _ _ => 0)
    case atStart => exact ⟨rfl, rfl, rfl⟩
    case round =>
      obtain ⟨rfl, rfl, rfl⟩ := hrel
      go_wp2_with fail
      go_loopw [8, 18, 19] (fun vw vo vi wr => vw = .slice none 0 0 ∧ vo = .int .i64 a1 ∧ vi = .int .i64 0 ∧ w7 = wr) (fun _ _ _ _ => 0)
      case atStart => exact ⟨rfl, rfl, rfl, rfl⟩
      case round =>
        obtain ⟨rfl, rfl, rfl, rfl⟩ := hrel
        go_wp2_with fail
        go_loopw [21] (fun vi wr => vi = .int .i64 0 ∧ w7 = wr) (fun _ _ => 0)
        case atStart => exact ⟨rfl, rfl⟩
        case round =>
          obtain ⟨rfl, rfl⟩ := hrel
          go_wp2_with fail
          refine (yard_shares_full _ l0 a1 _ (HJ0.out.only H7.out) (by omega)).mono ?_
          rintro e w8 ⟨rfl, ho8⟩
          have H8 := Lib.hid (H7.out.trans ho8 (by simp))
          clear ho8
          go_wp2_with fail
          refine (same_err 4 4 _ (HG.out.only H8.out) true rfl).mono ?_
          rintro e w9 ⟨rfl, ho9⟩
          have H9 := Lib.hid (H8.out.trans ho9 (by simp))
          clear ho9
          go_wp2_with fail
          refine (same_ints _ _ [] _ (.inl ⟨rfl, .inl rfl⟩) (.inl ⟨rfl, .inl rfl⟩) (by simp)).mono ?_
          rintro e w10 ⟨rfl, k10, hk10⟩
          have H10 : Hid (Only [] w w10) := Lib.hid (by rw [hk10]; exact H9.out.drewN k10)
          clear hk10
          go_wp2
          go_ret
          exact ⟨rfl, H10.out.below (Nat.le_refl _) (by simp)⟩

end Go.Proofs.YtmjicogmgkeilaaDoor.yardTells
