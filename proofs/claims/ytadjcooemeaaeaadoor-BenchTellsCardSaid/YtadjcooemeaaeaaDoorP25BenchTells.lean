/-
  Contracts of yardref2.Bench and yardref2.Steps.
  What hands did, and what steps had, are the bits. No program is named here.
  Contract of yardref1.Free.
-/
import Derived.Test.YtadjcooemeaaeaaDoorP24BenchTells
import Derived.Test.YtadjcooemeaaeaaDoorP15BenchTells
import Derived.Test.YtadjcooemeaaeaaDoorP13BenchTells
namespace Go.Proofs.YtadjcooemeaaeaaDoor
open Go.RowKit Go.Deep

theorem benchErr_bad {bs : List Bt} {hands : Int} (h6 : bs.length ≤ 600) (hh : ¬ (hands < 1 ∨ 6 < hands)) {i : Nat} (hi : i < bs.length) (hb : ¬ bitOk hands (bitAt bs i)) : benchErr bs hands = 1 := by
  unfold benchErr
  rw [if_neg (by omega), if_neg hh, if_pos]
  exact List.any_eq_true.2 ⟨bitAt bs i, bitAt_mem hi, by simp [hb]⟩
theorem benchErr_good {bs : List Bt} {hands : Int} (h6 : bs.length ≤ 600) (hh : ¬ (hands < 1 ∨ 6 < hands)) (hb : ∀ i, i < bs.length → bitOk hands (bitAt bs i)) : benchErr bs hands = 0 := by
  unfold benchErr
  rw [if_neg (by omega), if_neg hh, if_neg]
  intro h
  obtain ⟨b, hm, hx⟩ := List.any_eq_true.1 h
  obtain ⟨i, hi, rfl⟩ := List.getElem_of_mem hm
  have := hb i hi
  rw [show bitAt bs i = bs[i] by simp [bitAt, hi]] at this
  simp [this] at hx

set_option maxRecDepth 100000 in
set_option maxHeartbeats 4000000 in
theorem ref_Bench (v : Value) (bs : List Bt) (hands : Int) (w : World) (h : BitsAt w v bs) (hlm : bs.length ≤ 9223372036854775807) :
    Calls Tryd.prog 47 #[v, .int .i64 hands] w fun e w' => e = .returned (.int .i64 (benchErr bs hands)) ∧ Only [] w w' := by
  obtain ⟨a, c, rfl, ha⟩ := h.opt
  obtain ⟨n, hn⟩ : ∃ n, bs.length = n := ⟨_, rfl⟩
  have HN := Lib.hid hn
  by_cases h6 : 600 < bs.length
  · have hr : benchErr bs hands = 4 := by unfold benchErr; rw [if_pos h6]
    rw [hr]
    rw [hn] at h6 hlm ⊢
    clear h hn ha hr
    go_enter Tryd.func47, Tryd.ntmps47
    go_wp2
    go_ret
    exact ⟨rfl, Only.refl _ _⟩
  · by_cases hh : hands < 1 ∨ 6 < hands
    · have hr : benchErr bs hands = 1 := by unfold benchErr; rw [if_neg h6, if_pos hh]
      rw [hr]
      rw [hn] at h6 ⊢
      clear h hn ha hr hlm
      rcases (show hands < 1 ∨ (1 ≤ hands ∧ 6 < hands) by omega) with h1 | ⟨h1, h2⟩
      all_goals
        clear hh
        go_enter Tryd.func47, Tryd.ntmps47
        go_wp2
        go_ret
        exact ⟨rfl, Only.refl _ _⟩
    · have HBad := Lib.hid (fun i hi hb => benchErr_bad (bs := bs) (hands := hands) (by omega) hh (i := i) hi hb)
      have HGood := Lib.hid (fun hb => benchErr_good (bs := bs) (hands := hands) (by omega) hh hb)
      have h1 : 1 ≤ hands := by omega
      have h2 : hands ≤ 6 := by omega
      obtain ⟨E, hE⟩ : ∃ E, benchErr bs hands = E := ⟨_, rfl⟩
      have HE := Lib.hid hE
      rw [hE]
      rw [hn] at h6 ha hlm ⊢
      clear h hn hh hE
      go_enter Tryd.func47, Tryd.ntmps47
      go_wp2_with fail
      go_loopw [5, 6] (fun vi _ wr => ∃ i : Nat, i ≤ n ∧ vi = .int .i64 i ∧ (∀ j, j < i → bitOk hands (bitAt bs j)) ∧ Only [] w wr) (fun vi _ _ => n - (intOf vi).toNat)
      case atStart => exact ⟨0, Nat.zero_le _, rfl, fun j hj => by omega, Only.refl _ _⟩
      case round =>
        obtain ⟨i, hi, rfl, hok, ho⟩ := hrel
        have HOK := Lib.hid hok
        clear hok
        by_cases hin : i < n
        · obtain ⟨b, off, rfl, k0, k1, k2⟩ := ha i hin
          have c0 := (ho.cell (p := ⟨b, _, none⟩) (cell_lt k0) (by simp)).trans k0
          have c1 := (ho.cell (p := ⟨b, _, none⟩) (cell_lt k1) (by simp)).trans k1
          have c2 := (ho.cell (p := ⟨b, _, none⟩) (cell_lt k2) (by simp)).trans k2
          have hdec : Hid (bitOk hands (bitAt bs i) ↔ 0 ≤ (bitAt bs i).step ∧ (bitAt bs i).step ≤ 10000 ∧ 0 ≤ (bitAt bs i).hand ∧ (bitAt bs i).hand < hands ∧ 0 ≤ (bitAt bs i).task ∧ (bitAt bs i).task < 30) := Iff.rfl
          obtain ⟨b9, hb9⟩ : ∃ b9, bitAt bs i = b9 := ⟨_, rfl⟩
          have HB9 := Lib.hid hb9
          rw [hb9] at c0 c1 c2 hdec
          clear hb9
          obtain ⟨x, y, z⟩ := b9
          simp only at c0 c1 c2
          have ho2 := Lib.hid (ho.alloc (.cells #[.int .i64 x, .int .i64 y, .int .i64 z] 93))
          clear ha k0 k1 k2
          by_cases hg : 0 ≤ x ∧ x ≤ 10000 ∧ 0 ≤ y ∧ y < hands ∧ 0 ≤ z ∧ z < 30
          · have HG := Lib.hid hg
            obtain ⟨g1, g2, g3, g4, g5, g6⟩ := hg
            have HO := Lib.hid ho
            clear ho
            go_wp2
            go_roundw
            case rel => exact ⟨i + 1, by omega, by go_num, fun j hj => by
              by_cases e : j = i
              · subst e; rw [HB9.out]; exact hdec.out.2 HG.out
              · exact HOK.out j (by omega), by first | exact ho2.out | exact HO.out⟩
            case measure => (simp [intOf]; try omega)
          · have hbad : Hid (E = 1) := by
              show _ = _
              rw [← HE.out]
              exact HBad.out i (by rw [HN.out]; exact hin) (by rw [HB9.out]; intro hk; exact hg (hdec.out.1 hk))
            have HO := Lib.hid ho
            have hg2 : x < 0 ∨ (0 ≤ x ∧ 10000 < x) ∨ (0 ≤ x ∧ x ≤ 10000 ∧ y < 0) ∨ (0 ≤ x ∧ x ≤ 10000 ∧ 0 ≤ y ∧ hands ≤ y) ∨ (0 ≤ x ∧ x ≤ 10000 ∧ 0 ≤ y ∧ y < hands ∧ z < 0) ∨ (0 ≤ x ∧ x ≤ 10000 ∧ 0 ≤ y ∧ y < hands ∧ 0 ≤ z ∧ 29 < z) := by omega
            clear hg ho
            rcases hg2 with g1 | ⟨g1, g2⟩ | ⟨g1, g2, g3⟩ | ⟨g1, g2, g3, g4⟩ | ⟨g1, g2, g3, g4, g5⟩ | ⟨g1, g2, g3, g4, g5, g6⟩
            all_goals
              go_wp2
              go_ret
              exact ⟨by rw [hbad.out]; rfl, by first | exact ho2.out | exact HO.out⟩
        · obtain rfl : i = n := by omega
          have hz : Hid (E = 0) := by
            show _ = _
            rw [← HE.out]
            exact HGood.out (fun j hj => HOK.out j (by rw [← HN.out]; exact hj))
          clear ha
          go_wp2
          go_ret
          exact ⟨by rw [hz.out]; rfl, ho⟩

set_option maxRecDepth 100000 in
set_option maxHeartbeats 2000000 in
theorem ref_Steps (v : Value) (bs : List Bt) (w : World) (h : BitsAt w v bs) (hok : ∀ b ∈ bs, 0 ≤ b.step ∧ b.step ≤ 10000) (hlm : bs.length ≤ 9223372036854775807) :
    Calls Tryd.prog 49 #[v] w fun e w' => e = .returned (.int .i64 (stepsOf bs : Int)) ∧ Only [] w w' := by
  obtain ⟨a, c, rfl, ha⟩ := h.opt
  obtain ⟨n, hn⟩ : ∃ n, bs.length = n := ⟨_, rfl⟩
  have HN := Lib.hid hn
  have HOK := Lib.hid hok
  rw [hn] at ha hlm ⊢
  have hbd : ∀ i, Hid (stepsOf (bs.take i) ≤ 10001) := fun i => by
    show _ ≤ _
    exact stepsOf_le (fun b hb => by have := HOK.out b (List.mem_of_mem_take hb); omega)
  have HBD := Lib.hid hbd
  clear h hn hok hbd
  go_enter Tryd.func49, Tryd.ntmps49
  go_wp2_with fail
  go_loopw [3, 4] (fun vs vi wr => ∃ i s : Nat, i ≤ n ∧ vi = .int .i64 i ∧ vs = .int .i64 s ∧ s = stepsOf (bs.take i) ∧ Only [] w wr) (fun _ vi _ => n - (intOf vi).toNat)
  case atStart => exact ⟨0, 0, Nat.zero_le _, rfl, rfl, rfl, Only.refl _ _⟩
  case round =>
    obtain ⟨i, s, hi, rfl, rfl, hs, ho⟩ := hrel
    have HS := Lib.hid hs
    have hs2 : s ≤ 10001 := by rw [hs]; exact (HBD.out i).out
    clear hs
    by_cases hin : i < n
    · obtain ⟨b, off, rfl, k0, k1, k2⟩ := ha i hin
      have c0 := (ho.cell (p := ⟨b, _, none⟩) (cell_lt k0) (by simp)).trans k0
      have hb := HOK.out (bitAt bs i) (bitAt_mem (by rw [HN.out]; exact hin))
      have hnx : Hid (stepsOf (bs.take (i + 1)) = max s ((bitAt bs i).step.toNat + 1)) := by
        show _ = _
        rw [take_bit bs i (by rw [HN.out]; exact hin), stepsOf_append, ← HS.out]
        simp [stepsOf]
      obtain ⟨x, hx⟩ : ∃ x, (bitAt bs i).step = x := ⟨_, rfl⟩
      rw [hx] at c0 hb hnx
      obtain ⟨hb1, hb2⟩ := hb
      obtain ⟨x, rfl⟩ := Int.eq_ofNat_of_zero_le hb1
      rw [Int.toNat_natCast] at hnx
      clear ha k0 k1 k2 hx hb1
      by_cases hge : s ≤ x
      · have hnx2 : Hid (stepsOf (bs.take (i + 1)) = x + 1) := by show _ = _; rw [hnx.out]; omega
        clear hnx
        go_wp2
        go_roundw
        case rel => exact ⟨i + 1, x + 1, by omega, by go_num, by go_num, hnx2.out.symm, ho⟩
        case measure => (simp [intOf]; try omega)
      · have hnx2 : Hid (stepsOf (bs.take (i + 1)) = s) := by show _ = _; rw [hnx.out]; omega
        clear hnx
        go_wp2
        go_roundw
        case rel => exact ⟨i + 1, s, by omega, by go_num, rfl, hnx2.out.symm, ho⟩
        case measure => (simp [intOf]; try omega)
    · obtain rfl : i = n := by omega
      have hfin : Hid (s = stepsOf bs) := by
        show _ = _
        rw [HS.out, List.take_of_length_le (by rw [HN.out]; exact Nat.le_refl _)]
      clear ha
      go_wp2
      go_ret
      exact ⟨by rw [hfin.out]; rfl, ho⟩

end Go.Proofs.YtadjcooemeaaeaaDoor

namespace Go.Proofs.YtadjcooemeaaeaaDoor

theorem sumI_ind (x : Int) (n : Nat) : sumI (fun k => if x = (k : Int) then 1 else 0) n = if 0 ≤ x ∧ x < n then 1 else 0 := by
  induction n with
  | zero => (simp [sumI]; try omega)
  | succ n ih =>
    simp only [sumI]
    rw [ih]
    split <;> split <;> split <;> omega

theorem count_sum (f : Bt → Int) (bs : List Bt) (n : Nat) (h : ∀ b ∈ bs, 0 ≤ f b ∧ f b < n) : sumI (fun k => ((bs.countP fun b => f b == (k : Int) : Nat) : Int)) n = bs.length := by
  induction bs with
  | nil => exact (sumI_congr (g := fun _ => 0) n (fun i _ => rfl)).trans (by
      have : ∀ n, sumI (fun _ => 0) n = 0 := fun n => by
        induction n with
        | zero => rfl
        | succ n ih => simp [sumI, ih]
      exact this n)
  | cons b bs ih =>
    have e : sumI (fun k => (((b :: bs).countP fun b => f b == (k : Int) : Nat) : Int)) n = sumI (fun k => ((bs.countP fun b => f b == (k : Int) : Nat) : Int) + (if f b = (k : Int) then 1 else 0)) n := sumI_congr n (fun i _ => by
      rw [List.countP_cons]
      by_cases e : f b = (i : Int) <;> simp [e])
    rw [e, sumI_add, ih (fun c hc => h c (by simp [hc])), sumI_ind, if_pos (h b (by simp))]
    simp

theorem hand_sum {bs : List Bt} {hands : Nat} (h : ∀ b ∈ bs, bitOk hands b) : sumI (fun k => (ofHand bs k : Int)) hands = bs.length :=
  count_sum (fun b => b.hand) bs hands (fun b hb => by have := h b hb; unfold bitOk at this; omega)
theorem step_sum {bs : List Bt} (h : ∀ b ∈ bs, 0 ≤ b.step) : sumI (fun k => (atStep bs k : Int)) (stepsOf bs) = bs.length :=
  count_sum (fun b => b.step) bs (stepsOf bs) (fun b hb => by have := stepsOf_lt hb; have := h b hb; omega)

theorem speed_bd {p : PlanL} (h : PlanOk p) {hands s : Nat} (h1 : 1 ≤ hands) (he : GEnd p hands s) : 100 ≤ speedF p s ∧ speedF p s ≤ 100 * hands := by
  unfold speedF
  split
  · omega
  · rename_i hs
    obtain ⟨_, b1, _, _⟩ := greedy_bounds h h1 he
    have b2 : (s : Int) ≤ workF p := by
      have := gBits_steps p hands s he.2
      have e := gSum_workF h
      rw [← gBits_work h h1 he] at e
      omega
    refine ⟨Int.le_ediv_of_mul_le (by omega) (by omega), ?_⟩
    apply Int.ediv_le_of_le_mul (by omega)
    rw [Int.mul_assoc]
    exact Int.mul_le_mul_of_nonneg_left b1 (by omega)

end Go.Proofs.YtadjcooemeaaeaaDoor

namespace Go.Proofs.YtadjcooemeaaeaaDoor
open Go.RowKit Go.Deep

def freeB (p : PlanL) (D : Nat → Bool) (i : Nat) : Bool := (ndOf p i).all (fun k => D k.toNat)
theorem ready_free (p : PlanL) (D : Nat → Bool) (i : Nat) : readyB p D i = (!D i && freeB p D i) := rfl

set_option maxRecDepth 100000 in
set_option maxHeartbeats 2000000 in
theorem ref_Free (v : Value) (p : PlanL) (i A n : Nat) (D : Nat → Bool) (w : World) (h : InPlan w v p) (hn : NeedsOk p) (hB : Bools w A n D) (hi : i < p.length) (hl : p.length = n) :
    Calls Tryd.prog 37 #[v, .int .i64 i, .slice (some ⟨A, 0, none⟩) n n] w fun e w' => e = .returned (.bool (freeB p D i)) ∧ w' = w := by
  obtain ⟨a, cap, rfl, hc1, hc2, _⟩ := h.task
  obtain ⟨b, off, rfl⟩ := h.any i hi
  obtain ⟨ua, uc, _, c1, hrd⟩ := h.at i hi
  have h30 := hn.1
  obtain ⟨m, hm⟩ : ∃ m, (ndOf p i).length = m := ⟨_, rfl⟩
  have HM := Lib.hid hm
  have hm30 : m ≤ 30 := by have := hn.2.2 i; rw [hm] at this; exact this
  have hcl : ∀ k, k < m → ∃ g o x, ua = some ⟨g, o, none⟩ ∧ w.cell? ⟨g, o + k, none⟩ = some (.int .i64 ((x : Nat) : Int)) ∧ x < n ∧ nth (ndOf p i) k = x := by
    intro k hk
    have hkl : k < (ndOf p i).length := by rw [HM.out]; exact hk
    obtain ⟨a', c', e, hc⟩ := hrd.opt
    obtain ⟨g, o, rfl, hcc⟩ := hc k hkl
    injection e with e1 _ _
    have hx := hn.2.1 i (nth (ndOf p i) k) (by unfold nth; rw [List.getElem?_eq_getElem hkl]; exact List.getElem_mem hkl)
    obtain ⟨x, hxn⟩ := Int.eq_ofNat_of_zero_le hx.1
    rw [hxn] at hcc hx
    exact ⟨g, o, x, e1, hcc, by omega, hxn⟩
  rw [hl] at hc1 hi ⊢
  rw [hm] at c1
  have HCL := Lib.hid hcl
  have HB := Lib.hid hB
  clear h hn hrd hm hcl hB hl
  go_enter Tryd.func37, Tryd.ntmps37
  go_wp2_with fail
  go_loopw [7] (fun vk wr => ∃ k : Nat, k ≤ m ∧ vk = .int .i64 k ∧ ((ndOf p i).take k).all (fun k => D k.toNat) = true ∧ w = wr) (fun vk _ => m - (intOf vk).toNat)
  case atStart => exact ⟨0, Nat.zero_le _, rfl, by simp, rfl⟩
  case round =>
    obtain ⟨k, hk, rfl, hall, rfl⟩ := hrel
    by_cases hlt : k < m
    · obtain ⟨g, o, x, rfl, cx, hxn, hnx⟩ := HCL.out k hlt
      have cb := (HB.out x hxn).1
      have hst : Hid (((ndOf p i).take (k + 1)).all (fun k => D k.toNat) = D x) := by
        show _ = _
        rw [take_succ_nth _ k (by rw [HM.out]; exact hlt), List.all_append, hall, hnx]; simp
      have hfr : Hid (D x = false → freeB p D i = false) := fun hd => by
        unfold freeB
        rw [List.all_eq_false]
        refine ⟨(x : Int), ?_, by simp [hd]⟩
        have hkl : k < (ndOf p i).length := by rw [HM.out]; exact hlt
        rw [← hnx]
        unfold nth; rw [List.getElem?_eq_getElem hkl]; exact List.getElem_mem hkl
      cases hd : D x
      · rw [hd] at cb
        have hF := Lib.hid (hfr.out hd)
        clear hall hd
        go_wp2
        go_ret
        exact ⟨by rw [hF.out]; rfl, rfl⟩
      · rw [hd] at cb
        have hst2 : Hid (((ndOf p i).take (k + 1)).all (fun k => D k.toNat) = true) := by rw [← hd]; exact hst
        clear hall hd
        go_wp2
        go_roundw
        case rel => exact ⟨k + 1, by omega, by go_num, hst2.out, trivial⟩
        case measure => (simp [intOf]; try omega)
    · obtain rfl : k = m := by omega
      rw [List.take_of_length_le (Nat.le_of_eq HM.out)] at hall
      have hF : Hid (freeB p D i = true) := hall
      clear hall
      go_wp2
      go_ret
      exact ⟨by rw [hF.out]; rfl, rfl⟩

end Go.Proofs.YtadjcooemeaaeaaDoor
