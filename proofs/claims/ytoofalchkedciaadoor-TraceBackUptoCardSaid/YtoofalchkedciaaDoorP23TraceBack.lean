/-
  Contracts of plan.Check and plan.Right.
  Contracts of package trace: whole.
-/
import Derived.Test.YtoofalchkedciaaDoorP22TraceBack
import Derived.Test.YtoofalchkedciaaDoorP6TraceBack
namespace Go.Proofs.YtoofalchkedciaaDoor
open Go.RowKit

theorem errV_zero : errV 0 = .nilIface := rfl
theorem errV_ne {e : Int} (h : e ≠ 0) : errV e = .iface 56 (.int .i64 e) := by unfold errV; rw [if_neg h]

open Classical in
set_option maxRecDepth 100000 in
set_option maxHeartbeats 2000000 in
theorem plan_Check (v : Value) (p : PlanL) (w : World) (h : InPlan w v p) :
    Calls Tryd.prog 8 #[v] w fun e w' => e = .returned (.tuple #[.int .i64 (planCheck p).1, errV (planCheck p).2]) ∧ Only [] w w' := by
  have HP := Lib.hid h
  obtain ⟨a, cap, rfl, hc1, hc2, _⟩ := h.task
  obtain ⟨n, hn⟩ : ∃ n, p.length = n := ⟨_, rfl⟩
  obtain ⟨⟨pi, pe⟩, hpc⟩ : ∃ x, planCheck p = x := ⟨_, rfl⟩
  have HC := Lib.hid hpc
  have HL := Lib.hid hn
  rw [hpc]
  rw [hn] at hc1 HP ⊢
  have hc3 : n ≤ 9223372036854775807 := by unfold maxLen at hc2; omega
  clear h hn hpc hc2
  show Calls _ _ _ _ fun e w' => e = .returned (.tuple #[.int .i64 pi, errV pe]) ∧ Only [] w w'
  by_cases h30 : 30 < n
  · have hx := planCheck_full (p := p) (by rw [HL.out]; exact h30)
    rw [HC.out] at hx
    obtain ⟨rfl, rfl⟩ := Prod.mk.inj hx
    clear hx
    go_enter Tryd.func8, Tryd.ntmps8
    go_wp2
    go_ret2
    exact ⟨rfl, Only.refl _ _⟩
  · have h30' : n ≤ 30 := by omega
    clear h30
    go_enter Tryd.func8, Tryd.ntmps8
    go_wp2_with fail
    go_loopw [13] (fun vi wr => ∃ i : Nat, i ≤ n ∧ vi = .int .i64 i ∧ (∀ j, j < i → taskFault p.length (p[j]?.getD (0, [])) = 0) ∧ Only [] w wr) (fun vi _ => n - (intOf vi).toNat)
    case atStart => exact ⟨0, Nat.zero_le _, rfl, fun j hj => by omega, Only.refl _ _⟩
    case round =>
      obtain ⟨i, hi, rfl, hf, ho⟩ := hrel
      have HF := Lib.hid hf
      clear hf
      by_cases hlt : i < n
      · have ht := plan_task _ p i wr (HP.out.same ho) (by rw [HL.out]; exact hlt)
        by_cases h0 : taskFault p.length (p[i]?.getD (0, [])) = 0
        · rw [h0, errV_zero] at ht
          have H0 := Lib.hid h0
          clear h0
          go_wp2_with fail
          refine ht.mono ?_
          rintro e w1 ⟨rfl, ho1⟩
          have hoo := ho.trans ho1 (by simp)
          clear ht ho ho1
          go_wp2
          go_roundw
          case rel =>
            refine ⟨i + 1, by omega, by go_num, fun j hj => ?_, hoo⟩
            by_cases e : j = i
            · subst e; exact H0.out
            · exact HF.out j (by omega)
          case measure => (simp [intOf]; try omega)
        · have hx := planCheck_task (p := p) (by rw [HL.out]; exact h30') (by rw [HL.out]; exact hlt) HF.out rfl h0
          rw [HC.out] at hx
          obtain ⟨e1, e2⟩ := Prod.mk.inj hx
          rw [errV_ne h0, ← e2] at ht
          have H1 : Hid (pi = i ∧ pe ≠ 0) := ⟨e1, by rw [e2]; exact h0⟩
          clear h0 hx e1 e2
          go_wp2_with fail
          refine ht.mono ?_
          rintro e w1 ⟨rfl, ho1⟩
          have hoo := ho.trans ho1 (by simp)
          clear ht ho ho1
          go_wp2
          go_ret2
          exact ⟨by rw [errV_ne H1.out.2, H1.out.1]; rfl, hoo⟩
      · obtain rfl : i = n := by omega
        have hN := Lib.hid (needsOk (p := p) (by rw [HL.out]; exact h30') (fun j hj => HF.out j (by rw [HL.out] at hj; exact hj)))
        clear hlt hi
        go_wp2_with fail
        go_loopw [26] (fun vi wr2 => ∃ k : Nat, k ≤ i ∧ vi = .int .i64 k ∧ (∀ j, j < k → ¬ Reach p j j) ∧ Only [] w wr2) (fun vi _ => i - (intOf vi).toNat)
        case atStart => exact ⟨0, Nat.zero_le _, rfl, fun j hj => by omega, ho⟩
        case round =>
          obtain ⟨k, hk, rfl, hnr, ho⟩ := hrel
          have HNR := Lib.hid hnr
          clear hnr
          by_cases hlt : k < i
          · have ht := plan_reaches _ p k _ (HP.out.same ho) (by rw [HL.out]; exact hlt) hN.out
            by_cases h0 : Reach p k k
            · rw [decide_eq_true h0] at ht
              have hx := planCheck_cycle (p := p) (by rw [HL.out]; exact h30') (fun j hj => HF.out j (by rw [HL.out] at hj; exact hj)) (by rw [HL.out]; exact hlt) HNR.out h0
              rw [HC.out] at hx
              obtain ⟨rfl, rfl⟩ := Prod.mk.inj hx
              clear hx h0
              go_wp2_with fail
              refine ht.mono ?_
              rintro e w1 ⟨rfl, ho1⟩
              have hoo := ho.trans ho1 (by simp)
              clear ht ho ho1
              go_wp2
              go_ret2
              exact ⟨rfl, hoo⟩
            · rw [decide_eq_false h0] at ht
              have H0 := Lib.hid h0
              clear h0
              go_wp2_with fail
              refine ht.mono ?_
              rintro e w1 ⟨rfl, ho1⟩
              have hoo := ho.trans ho1 (by simp)
              clear ht ho ho1
              go_wp2
              go_roundw
              case rel =>
                refine ⟨k + 1, by omega, by go_num, fun j hj => ?_, hoo⟩
                by_cases e : j = k
                · subst e; exact H0.out
                · exact HNR.out j (by omega)
              case measure => (simp [intOf]; try omega)
          · obtain rfl : k = i := by omega
            have hx := planCheck_ok (p := p) ⟨by rw [HL.out]; exact h30', fun j hj => HF.out j (by rw [HL.out] at hj; exact hj), fun j hj => HNR.out j (by rw [HL.out] at hj; exact hj)⟩
            rw [HC.out] at hx
            obtain ⟨rfl, rfl⟩ := Prod.mk.inj hx
            clear hx hlt hk
            go_wp2
            go_ret2
            exact ⟨rfl, ho⟩

theorem plan_Right (v : Value) (p : PlanL) (w : World) (h : InPlan w v p) :
    Calls Tryd.prog 19 #[v] w fun e w' => e = .returned (errV (planFault p)) ∧ Only [] w w' := by
  have hc := plan_Check v p w h
  unfold planFault
  obtain ⟨⟨pi, pe⟩, hpc⟩ : ∃ x, planCheck p = x := ⟨_, rfl⟩
  rw [hpc] at hc ⊢
  replace hc : Calls _ _ _ _ fun e w' => e = .returned (.tuple #[.int .i64 pi, errV pe]) ∧ Only [] w w' := hc
  show Calls _ _ _ _ fun e w' => e = .returned (errV pe) ∧ Only [] w w'
  clear hpc h
  generalize errV pe = ev at *
  go_enter Tryd.func19, Tryd.ntmps19
  go_wp2_with fail
  refine hc.mono ?_
  rintro e w1 ⟨rfl, ho⟩
  clear hc
  go_wp2
  go_ret
  exact ⟨rfl, ho⟩

end Go.Proofs.YtoofalchkedciaaDoor

namespace Go.Proofs.YtoofalchkedciaaDoor
open Go.RowKit Go.Deep

set_option maxRecDepth 100000 in
theorem trace_alone (n : Int) (w : World) :
    Calls Tryd.prog 35 #[.int .i64 n] w fun e w' => e = .returned (.bool (aloneB n)) ∧ w = w' := by
  by_cases h1 : n = 5
  · subst h1
    go_enter Tryd.func35, Tryd.ntmps35
    go_wp2
    go_ret
    exact ⟨rfl, rfl⟩
  · have h5 : (n == 5) = false := by simpa using h1
    obtain ⟨b, hb⟩ : ∃ b, (n == 6) = b := ⟨_, rfl⟩
    have e : aloneB n = b := by rw [← hb]; unfold aloneB; by_cases h6 : n = 6 <;> simp [h1, h6]
    rw [e]
    clear e h1
    go_enter Tryd.func35, Tryd.ntmps35
    go_wp2
    go_ret
    exact ⟨rfl, rfl⟩

set_option maxRecDepth 100000 in
set_option maxHeartbeats 4000000 in
theorem trace_whole (v : Value) (l : List Dd) (w : World) (hv : DeedsAt w v l) (hl : l.length ≤ 9223372036854775807) :
    Calls Tryd.prog 30 #[v] w fun e w' => e = .returned (errV (ddsFault l)) ∧ Only [] w w' := by
  obtain ⟨a, cap, rfl, hc⟩ := hv.opt
  obtain ⟨n, hn⟩ : ∃ n, l.length = n := ⟨_, rfl⟩
  have HN := Lib.hid hn
  have HC := Lib.hid hc
  rw [hn] at HC hl ⊢
  clear hc hv
  by_cases hbig : 1000 < n
  · have e : ddsFault l = 4 := by unfold ddsFault; rw [if_pos (by omega)]
    rw [e, errV_ne (by decide)]
    clear e hn
    go_enter Tryd.func30, Tryd.ntmps30
    go_wp2
    go_ret
    exact ⟨rfl, Only.refl _ _⟩
  · have e : ddsFault l = firstDd l := by unfold ddsFault; rw [if_neg (by omega)]
    obtain ⟨E, hE⟩ : ∃ E, firstDd l = E := ⟨_, rfl⟩
    rw [e, hE]
    have HE := Lib.hid hE
    clear e hn hE
    go_enter Tryd.func30, Tryd.ntmps30
    go_wp2_with fail
    go_loopw [12] (fun vi wr => ∃ i : Nat, i ≤ n ∧ vi = .int .i64 i ∧ firstDd (l.drop i) = E ∧ Only [] w wr) (fun vi _ => n - (intOf vi).toNat)
    case atStart => exact ⟨0, Nat.zero_le _, rfl, HE.out, Only.refl _ _⟩
    case round =>
      obtain ⟨i, hi, rfl, hd, ho⟩ := hrel
      by_cases him : i < n
      · obtain ⟨b, off, rfl, k0, k1, k2, k3⟩ := HC.out i him
        have c0 := (ho.cell (p := ⟨b, _, none⟩) (cell_lt k0) (by simp)).trans k0
        have c1 := (ho.cell (p := ⟨b, _, none⟩) (cell_lt k1) (by simp)).trans k1
        have c2 := (ho.cell (p := ⟨b, _, none⟩) (cell_lt k2) (by simp)).trans k2
        have c3 := (ho.cell (p := ⟨b, _, none⟩) (cell_lt k3) (by simp)).trans k3
        rw [firstDd_drop l i (by rw [HN.out]; exact him)] at hd
        have HO := Lib.hid ho
        clear k0 k1 k2 k3 ho
        generalize ddAt l i = d at *
        have hcs := dd_three d
        have hr := @dd_range d
        have hs := @dd_shape d
        have hg := @dd_right d
        obtain ⟨dw, dh, dt, dr⟩ := d
        simp only at c0 c1 c2 c3 hr hs hg
        have hal := Lib.hid (HO.out.alloc (.cells #[.int .i64 dw, .int .i64 dh, .int .i64 dt, .int .i64 dr] 46))
        have HD := Lib.hid hd
        clear hd
        rcases hcs with h | h | h
        · have hE1 := Lib.hid (show E = 1 by rw [← HD.out, if_neg (by rw [h]; decide)]; exact h)
          have hx := hr h
          clear hr hs hg h HD
          rcases hx with h1 | ⟨h1, h2⟩ | ⟨h1, h2, h3⟩ | ⟨h1, h2, h3, h4⟩ | ⟨h1, h2, h3, h4, h5⟩ | ⟨h1, h2, h3, h4, h5, h6⟩ | ⟨h1, h3, h4, h5, h6, h7⟩ | ⟨h1, h3, h4, h5, h6, h7, h8⟩
          all_goals first | subst h1 | skip
          all_goals
            go_wp2
            go_ret
            exact ⟨by rw [hE1.out]; rfl, hal.out⟩
        · have hE3 := Lib.hid (show E = 3 by rw [← HD.out, if_neg (by rw [h]; decide)]; exact h)
          obtain ⟨h1, h2, h3, h4, h5, h6, hx⟩ := hs h
          clear hr hs hg h HD
          rcases hx with ⟨h7, h8⟩ | ⟨rfl, rfl, h9⟩ | ⟨rfl, rfl, h9⟩
          · have e2 : (dw == 2) = false := by simpa using h7
            have e0 : (dr != 0) = true := by simpa using h8
            go_wp2_with fail
            go_ret
            exact ⟨by rw [hE3.out]; rfl, hal.out⟩
          all_goals
            have e0 : (dt != 0) = true := by simpa using h9
            have hal1 := trace_alone
            go_wp2_with fail
            refine (trace_alone _ _).mono ?_
            rintro e w1 ⟨rfl, rfl⟩
            go_wp2
            go_ret
            exact ⟨by rw [hE3.out]; rfl, hal.out⟩
        · have hE0 := Lib.hid (show firstDd (l.drop (i + 1)) = E by rw [← HD.out, if_pos h])
          obtain ⟨h1, h2, h3, h4, h5, h6, hx⟩ := hg h
          clear hr hs hg h HD
          rcases hx with ⟨rfl, h7, h8⟩ | ⟨rfl, rfl, rfl⟩ | ⟨rfl, rfl, rfl⟩ | ⟨e2, e5, e6, rfl⟩
          · go_wp2_with fail
            refine (trace_alone _ _).mono ?_
            rintro e w1 ⟨rfl, rfl⟩
            go_wp2
            go_roundw
            case rel => exact ⟨i + 1, by omega, by go_num, hE0.out, hal.out⟩
            case measure => (simp [intOf]; try omega)
          · go_wp2_with fail
            refine (trace_alone _ _).mono ?_
            rintro e w1 ⟨rfl, rfl⟩
            go_wp2
            go_roundw
            case rel => exact ⟨i + 1, by omega, by go_num, hE0.out, hal.out⟩
            case measure => (simp [intOf]; try omega)
          · go_wp2_with fail
            refine (trace_alone _ _).mono ?_
            rintro e w1 ⟨rfl, rfl⟩
            go_wp2
            go_roundw
            case rel => exact ⟨i + 1, by omega, by go_num, hE0.out, hal.out⟩
            case measure => (simp [intOf]; try omega)
          · have e2' : (dw == 2) = false := by simpa using e2
            have ha : aloneB dw = false := by simp [aloneB, e5, e6]
            have hcl := fun W => trace_alone dw W
            rw [ha] at hcl
            clear ha
            go_wp2_with fail
            refine (hcl _).mono ?_
            rintro e w1 ⟨rfl, rfl⟩
            go_wp2
            go_roundw
            case rel => exact ⟨i + 1, by omega, by go_num, hE0.out, hal.out⟩
            case measure => (simp [intOf]; try omega)
      · obtain rfl : i = n := by omega
        have e : E = 0 := by rw [← hd, List.drop_of_length_le (by rw [HN.out]; exact Nat.le_refl _)]; rfl
        go_wp2
        go_ret
        exact ⟨by rw [e]; rfl, ho⟩

end Go.Proofs.YtoofalchkedciaaDoor
