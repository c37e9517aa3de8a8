/-
  The statement BenchAdds: busy and idle, all together, outright: what hands did, and what steps had, are the bits; a plan with so many hands is at most so many times as fast, and no slower than with one. No condition.
-/
import Derived.Test.YtbpkndflkbcmaaaFrame
import Derived.Test.YtbpkndflkbcmaaaBenchS
import Derived.Test.YtbpkndflkbcmaaaInBits
namespace Go.Proofs.Ytbpkndflkbcmaaa.benchAdds
open Go.ChangeShapes Go.WideShapes Go.ChangeAt Go.RowKit
open Go.ChangeMaps (open_string shut_string)
set_option linter.unusedVariables false


theorem lit_bits (W : World) : BitsAt (W.alloc (.cells #[.int .i64 0, .int .i64 1, .int .i64 0, .int .i64 4, .int .i64 1, .int .i64 0] 73)) (.slice (some ⟨W.heap.size, 0, none⟩) 2 2) [⟨0, 1, 0⟩, ⟨4, 1, 0⟩] := by
  refine ⟨rfl, flatB_one _, .inr ⟨by simp, W.heap.size, 0, 2, rfl, fun j y hy => ?_⟩⟩
  rw [Nat.zero_add, World.cell?_alloc_new]
  rw [← hy, ← Array.getElem?_toList]
  rfl
theorem lit_ok : ∀ b ∈ [(⟨0, 1, 0⟩ : Bt), ⟨4, 1, 0⟩], bitOk 2 b := by
  intro b hb; simp at hb; rcases hb with rfl | rfl <;> simp [bitOk]
theorem lit_hand : handL [⟨0, 1, 0⟩, ⟨4, 1, 0⟩] 2 = [0, 2] := by decide

set_option maxHeartbeats 8000000 in
set_option maxRecDepth 100000 in
theorem walk (v0 : Value) (l0 : List Bt) (a1 : Int) (v2 : Value) (l2 : PlanL) (w : World) (w0 : InBits w v0 l0) (w1 : (Lit.int .i64 a1).wf = true) (w2 : ArgPlan w v2 l2) :
    Calls Try.prog 10 #[v0, .int .i64 a1, v2] w fun e w' => e = .returned (.bool true) ∧ Below w.heap.size w w' := by
  have bd1 := bounds_i64 w1
  have HP := Lib.hid w2.2
  have HB := Lib.hid w0.2.1
  have hlm : l0.length ≤ 9223372036854775807 := by have := w0.2.2; unfold maxLen at this; omega
  obtain ⟨ba, bc, rfl, _⟩ := w0.2.1.opt
  obtain ⟨n, hn⟩ : ∃ n, l0.length = n := ⟨_, rfl⟩
  have HL := Lib.hid hn
  rw [hn] at HB hlm ⊢
  clear w0 w1 w2 hn
  have hlit := lit_bits w
  have hol := (Only.refl [] w).alloc (.cells #[.int .i64 0, .int .i64 1, .int .i64 0, .int .i64 4, .int .i64 1, .int .i64 0] 73)
  have hb0 := bench_busy _ _ 2 _ hlit (by simp) (by omega) (by omega) lit_ok
  rw [lit_hand] at hb0
  clear hlit
  go_enter Try.func10, Try.ntmps10
  go_wp2_with fail
  refine hb0.mono ?_
  rintro e w1 ⟨v1, rfl, hI1, ho1⟩
  have hoo1 := hol.trans ho1 (by simp)
  obtain ⟨g, cap, rfl, _⟩ := hI1.sized 2 rfl (by omega)
  have k1 : w1.cell? ⟨g, 1, none⟩ = some (.int .i64 2) := hI1.cell 1 (by simp)
  clear hb0 hol ho1 hI1
  have hspd : Hid (∀ W, Only [] w W → Calls Try.prog 38 #[v2, .int .i64 a1] W fun e w' => (∃ x, e = .returned (.tuple #[.int .i64 x, .nilIface]) ∧ 1 ≤ a1 ∧ a1 ≤ 6 ∧ 100 ≤ x ∧ x ≤ 100 * a1 ∧ Only [] w w') ∨ (∃ f, e = .returned (.tuple #[.int .i64 0, .iface 87 (.int .i64 f)]) ∧ Only [] w w')) := by
    show ∀ W, _
    intro W ho
    by_cases he : hErr l2 a1 = 0
    · obtain ⟨hok, h1, h6⟩ := hErr_zero he
      obtain ⟨k, rfl⟩ := Int.eq_ofNat_of_zero_le (show 0 ≤ a1 by omega)
      refine (bench_Speed v2 l2 k W (HP.out.same ho) hok (by omega) (by omega)).mono ?_
      rintro e w' ⟨s, rfl, hE, ho2⟩
      have := speed_bd hok (by omega) hE
      exact .inl ⟨_, rfl, h1, h6, this.1, this.2, ho.trans ho2 (by simp)⟩
    · refine (bench_Speed_no v2 l2 a1 W (HP.out.same ho) he).mono ?_
      rintro e w' ⟨rfl, ho2⟩
      exact .inr ⟨_, rfl, ho.trans ho2 (by simp)⟩
  go_wp2_with fail
  clear k1
  by_cases he : benchErr l0 a1 = 0
  · obtain ⟨hl6, h1, h6, hok⟩ := benchErr_zero he
    obtain ⟨hands, rfl⟩ := Int.eq_ofNat_of_zero_le (show 0 ≤ a1 by omega)
    have hh1 : 1 ≤ hands := by omega
    have hh6 : hands ≤ 6 := by omega
    have hbusy := bench_busy _ l0 hands w1 (HB.out.same hoo1) hl6 hh1 hh6 hok
    have hrow := Lib.hid (fun W (ho : Only [] w W) => bench_Row _ l0 W (HB.out.same ho) hl6 (fun b hb => by have := hok b hb; unfold bitOk at this ⊢; omega))
    have hwst := Lib.hid (fun W (ho : Only [] w W) => bench_waste _ l0 hands W (HB.out.same ho) hl6 hh1 hh6 hok)
    have hhs := Lib.hid (hand_sum hok)
    have hss := Lib.hid (step_sum (bs := l0) (fun b hb => (hok b hb).1))
    have hs10 : stepsOf l0 ≤ 10001 := stepsOf_le (fun b hb => by have := hok b hb; unfold bitOk at this; omega)
    have hgr := Lib.hid (fun k (hk : k ≤ hands) => sumI_grow (f := fun k => (ofHand l0 k : Int)) k hands hk (fun i _ => by simp))
    have hgr2 := Lib.hid (fun k (hk : k ≤ stepsOf l0) => sumI_grow (f := fun k => (atStep l0 k : Int)) k (stepsOf l0) hk (fun i _ => by simp))
    rw [HL.out] at hhs hss hwst hl6
    rw [hhs.out] at hgr
    rw [hss.out] at hgr2
    have hnn := Lib.hid (fun k => sumI_nonneg (f := fun k => (ofHand l0 k : Int)) k (fun i _ => by simp))
    have hnn2 := Lib.hid (fun k => sumI_nonneg (f := fun k => (atStep l0 k : Int)) k (fun i _ => by simp))
    have hhl : Hid ((handL l0 hands).length = hands) := handL_len _ _
    have hrl : Hid ((rowL l0 (stepsOf l0)).length = stepsOf l0) := rowL_len _ _
    obtain ⟨st, hst⟩ : ∃ st, stepsOf l0 = st := ⟨_, rfl⟩
    rw [hst] at hs10 hgr2 hrow hwst hrl hss
    have hm1 : 0 ≤ (hands : Int) * (st : Int) := Int.mul_nonneg (by omega) (by omega)
    have hm2 : (hands : Int) * (st : Int) ≤ 60006 := by
      have := Int.mul_le_mul (show (hands : Int) ≤ 6 by omega) (show (st : Int) ≤ 10001 by omega) (by omega) (by omega)
      omega
    clear he hok hst
    refine hbusy.mono ?_
    rintro e w2 ⟨vb, rfl, hIb, ho2⟩
    have hoo2 := hoo1.trans ho2 (by simp)
    obtain ⟨oa, oc, rfl, hcb⟩ := hIb.opt
    rw [hhl.out] at hcb ⊢
    clear hbusy ho2 hIb
    go_wp2_with fail
    refine (hrow.out w2 hoo2).mono ?_
    rintro e w3 ⟨vr, rfl, hIr, ho3⟩
    have hoo3 := hoo2.trans ho3 (by simp)
    obtain ⟨ra, rc, rfl, hcr⟩ := hIr.opt
    rw [hrl.out] at hcr ⊢
    clear hIr hrow
    go_wp2_with fail
    refine (hwst.out w3 hoo3).mono ?_
    rintro e w4 ⟨rfl, ho4⟩
    have hoo4 := hoo3.trans ho4 (by simp)
    have HCB : Hid (∀ i, i < hands → ∃ g, oa = some ⟨g, 0, none⟩ ∧ w4.cell? ⟨g, i, none⟩ = some (.int .i64 (ofHand l0 i : Int))) := by
      show ∀ i, _
      intro i hi
      obtain ⟨g, e, h⟩ := hcb i hi
      rw [handL_nth _ _ _ hi] at h
      exact ⟨g, e, ((ho3.trans ho4 (by simp)).cell (p := ⟨g, i, none⟩) (cell_lt h) (by simp)).trans h⟩
    have HCR : Hid (∀ i, i < st → ∃ g, ra = some ⟨g, 0, none⟩ ∧ w4.cell? ⟨g, i, none⟩ = some (.int .i64 (atStep l0 i : Int))) := by
      show ∀ i, _
      intro i hi
      obtain ⟨g, e, h⟩ := hcr i hi
      rw [rowL_nth _ _ _ hi] at h
      exact ⟨g, e, (ho4.cell (p := ⟨g, i, none⟩) (cell_lt h) (by simp)).trans h⟩
    clear hcb hcr ho3 ho4 hoo2 hoo3 hwst
    have HM := Lib.hid (And.intro hm1 hm2)
    go_wp2_with fail
    go_loop [15, 17] (fun vx vi => ∃ i : Nat, i ≤ hands ∧ vi = .int .i64 i ∧ vx = .int .i64 (sumI (fun k => (ofHand l0 k : Int)) i)) (fun _ vi => hands - (intOf vi).toNat)
    case atStart => exact ⟨0, Nat.zero_le _, rfl, rfl⟩
    case round =>
      obtain ⟨i, hi, rfl, rfl⟩ := hrel
      have hsb := hgr.out i hi
      have hs0 := hnn.out i
      by_cases hih : i < hands
      · obtain ⟨g, rfl, cg⟩ := HCB.out i hih
        have hsu : Hid (sumI (fun k => (ofHand l0 k : Int)) (i + 1) = sumI (fun k => (ofHand l0 k : Int)) i + (ofHand l0 i : Int)) := rfl
        have hle : ofHand l0 i ≤ n := by rw [← HL.out]; exact List.countP_le_length
        generalize sumI (fun k => (ofHand l0 k : Int)) i = s at *
        generalize ofHand l0 i = x at *
        go_wp2
        go_round
        case rel => exact ⟨i + 1, by omega, by go_num, by rw [hsu.out]⟩
        case measure => (simp [intOf]; try omega)
      · obtain rfl : hands = i := by omega
        rw [hhs.out]
        clear hsb hs0 hih hi
        go_wp2_with fail
        go_loop [16, 18] (fun vx vi => ∃ i : Nat, i ≤ st ∧ vi = .int .i64 i ∧ vx = .int .i64 (sumI (fun k => (atStep l0 k : Int)) i)) (fun _ vi => st - (intOf vi).toNat)
        case atStart => exact ⟨0, Nat.zero_le _, rfl, rfl⟩
        case round =>
          obtain ⟨i, hi, rfl, rfl⟩ := hrel
          have hsb := hgr2.out i hi
          have hs0 := hnn2.out i
          by_cases hih : i < st
          · obtain ⟨g, rfl, cg⟩ := HCR.out i hih
            have hsu : Hid (sumI (fun k => (atStep l0 k : Int)) (i + 1) = sumI (fun k => (atStep l0 k : Int)) i + (atStep l0 i : Int)) := rfl
            have hle : atStep l0 i ≤ n := by rw [← HL.out]; exact List.countP_le_length
            generalize sumI (fun k => (atStep l0 k : Int)) i = s at *
            generalize atStep l0 i = x at *
            go_wp2
            go_round
            case rel => exact ⟨i + 1, by omega, by go_num, by rw [hsu.out]⟩
            case measure => (simp [intOf]; try omega)
          · obtain rfl : st = i := by omega
            rw [hss.out]
            clear hsb hs0 hih hi
            go_wp2_with fail
            refine (hspd.out w4 hoo4).mono ?_
            rintro e w5 (⟨x, rfl, h1, h6, hx1, hx2, ho5⟩ | ⟨f2, rfl, ho5⟩)
            · have d1 : decide (100 ≤ x) = true := by simp; omega
              go_wp2
              go_ret
              exact ⟨rfl, ho5.below (Nat.le_refl _) (by simp)⟩
            · go_wp2
              go_ret
              exact ⟨rfl, ho5.below (Nat.le_refl _) (by simp)⟩
  · have hb := bench_busy_no _ l0 a1 w1 (HB.out.same hoo1) (by rw [HL.out]; exact hlm) he
    generalize benchErr l0 a1 = f at *
    clear he
    refine hb.mono ?_
    rintro e w2 ⟨rfl, ho2⟩
    have hoo2 := hoo1.trans ho2 (by simp)
    clear hb
    go_wp2_with fail
    refine (hspd.out w2 hoo2).mono ?_
    rintro e w3 (⟨x, rfl, h1, h6, hx1, hx2, ho3⟩ | ⟨f2, rfl, ho3⟩)
    · have d1 : decide (100 ≤ x) = true := by simp; omega
      go_wp2
      go_ret
      exact ⟨rfl, ho3.below (Nat.le_refl _) (by simp)⟩
    · go_wp2
      go_ret
      exact ⟨rfl, ho3.below (Nat.le_refl _) (by simp)⟩

end Go.Proofs.Ytbpkndflkbcmaaa.benchAdds
