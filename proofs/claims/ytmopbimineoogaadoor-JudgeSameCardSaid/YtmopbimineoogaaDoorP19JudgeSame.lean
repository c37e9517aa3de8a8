/-
  Contracts of plan.Check and plan.Right.
  Contract of greedy.Hands.
  What is wrong with a plan, and hands.
  Contract of judge.ready.
  Contracts of slices.Index and slices.Contains at []int.
-/
import Derived.Test.YtmopbimineoogaaDoorP18JudgeSame
import Derived.Test.YtmopbimineoogaaDoorP1JudgeSame
import Derived.Test.YtmopbimineoogaaDoorRows
import Derived.Test.YtmopbimineoogaaDoorP5JudgeSame
namespace Go.Proofs.YtmopbimineoogaaDoor
open Go.RowKit

theorem errV_zero : errV 0 = .nilIface := rfl
theorem errV_ne {e : Int} (h : e ≠ 0) : errV e = .iface 71 (.int .i64 e) := by unfold errV; rw [if_neg h]

open Classical in
set_option maxRecDepth 100000 in
set_option maxHeartbeats 2000000 in
theorem plan_Check (v : Value) (p : PlanL) (w : World) (h : InPlan w v p) :
    Calls Tryd.prog 58 #[v] w fun e w' => e = .returned (.tuple #[.int .i64 (planCheck p).1, errV (planCheck p).2]) ∧ Only [] w w' := by
  have HP := Lib.hid h
  obtain ⟨a, cap, rfl, hc1, hc2, _⟩ := h.task
  obtain ⟨n, hn⟩ : ∃ n, p.length = n := ⟨_, rfl⟩
  obtain ⟨⟨pi, pe⟩, hpc⟩ : ∃ x, planCheck p = x := ⟨_, rfl⟩
  have HC := Lib.hid hpc
  have HL := Lib.hid hn
  rw [hpc]
  rw [hn] at hc1 HP ⊢
  have hc3 : n ≤ 9223372036854775807 := by unfold maxLen at hc2; omega
  clear h hn hpc hc2
  show Calls _ _ _ _ fun e w' => e = .returned (.tuple #[.int .i64 pi, errV pe]) ∧ Only [] w w'
  by_cases h30 : 30 < n
  · have hx := planCheck_full (p := p) (by rw [HL.out]; exact h30)
    rw [HC.out] at hx
    obtain ⟨rfl, rfl⟩ := Prod.mk.inj hx
    clear hx
    go_enter Tryd.func58, Tryd.ntmps58
    go_wp2
    go_ret2
    exact ⟨rfl, Only.refl _ _⟩
  · have h30' : n ≤ 30 := by omega
    clear h30
    go_enter Tryd.func58, Tryd.ntmps58
    go_wp2_with fail
    go_loopw [13] (fun vi wr => ∃ i : Nat, i ≤ n ∧ vi = .int .i64 i ∧ (∀ j, j < i → taskFault p.length (p[j]?.getD (0, [])) = 0) ∧ Only [] w wr) (fun vi _ => n - (intOf vi).toNat)
    case atStart => exact ⟨0, Nat.zero_le _, rfl, fun j hj => by omega, Only.refl _ _⟩
    case round =>
      obtain ⟨i, hi, rfl, hf, ho⟩ := hrel
      have HF := Lib.hid hf
      clear hf
      by_cases hlt : i < n
      · have ht := plan_task _ p i wr (HP.out.same ho) (by rw [HL.out]; exact hlt)
        by_cases h0 : taskFault p.length (p[i]?.getD (0, [])) = 0
        · rw [h0, errV_zero] at ht
          have H0 := Lib.hid h0
          clear h0
          go_wp2_with fail
          refine ht.mono ?_
          rintro e w1 ⟨rfl, ho1⟩
          have hoo := ho.trans ho1 (by simp)
          clear ht ho ho1
          go_wp2
          go_roundw
          case rel =>
            refine ⟨i + 1, by omega, by go_num, fun j hj => ?_, hoo⟩
            by_cases e : j = i
            · subst e; exact H0.out
            · exact HF.out j (by omega)
          case measure => (simp [intOf]; try omega)
        · have hx := planCheck_task (p := p) (by rw [HL.out]; exact h30') (by rw [HL.out]; exact hlt) HF.out rfl h0
          rw [HC.out] at hx
          obtain ⟨e1, e2⟩ := Prod.mk.inj hx
          rw [errV_ne h0, ← e2] at ht
          have H1 : Hid (pi = i ∧ pe ≠ 0) := ⟨e1, by rw [e2]; exact h0⟩
          clear h0 hx e1 e2
          go_wp2_with fail
          refine ht.mono ?_
          rintro e w1 ⟨rfl, ho1⟩
          have hoo := ho.trans ho1 (by simp)
          clear ht ho ho1
          go_wp2
          go_ret2
          exact ⟨by rw [errV_ne H1.out.2, H1.out.1]; rfl, hoo⟩
      · obtain rfl : i = n := by omega
        have hN := Lib.hid (needsOk (p := p) (by rw [HL.out]; exact h30') (fun j hj => HF.out j (by rw [HL.out] at hj; exact hj)))
        clear hlt hi
        go_wp2_with fail
        go_loopw [26] (fun vi wr2 => ∃ k : Nat, k ≤ i ∧ vi = .int .i64 k ∧ (∀ j, j < k → ¬ Reach p j j) ∧ Only [] w wr2) (fun vi _ => i - (intOf vi).toNat)
        case atStart => exact ⟨0, Nat.zero_le _, rfl, fun j hj => by omega, ho⟩
        case round =>
          obtain ⟨k, hk, rfl, hnr, ho⟩ := hrel
          have HNR := Lib.hid hnr
          clear hnr
          by_cases hlt : k < i
          · have ht := plan_reaches _ p k _ (HP.out.same ho) (by rw [HL.out]; exact hlt) hN.out
            by_cases h0 : Reach p k k
            · rw [decide_eq_true h0] at ht
              have hx := planCheck_cycle (p := p) (by rw [HL.out]; exact h30') (fun j hj => HF.out j (by rw [HL.out] at hj; exact hj)) (by rw [HL.out]; exact hlt) HNR.out h0
              rw [HC.out] at hx
              obtain ⟨rfl, rfl⟩ := Prod.mk.inj hx
              clear hx h0
              go_wp2_with fail
              refine ht.mono ?_
              rintro e w1 ⟨rfl, ho1⟩
              have hoo := ho.trans ho1 (by simp)
              clear ht ho ho1
              go_wp2
              go_ret2
              exact ⟨rfl, hoo⟩
            · rw [decide_eq_false h0] at ht
              have H0 := Lib.hid h0
              clear h0
              go_wp2_with fail
              refine ht.mono ?_
              rintro e w1 ⟨rfl, ho1⟩
              have hoo := ho.trans ho1 (by simp)
              clear ht ho ho1
              go_wp2
              go_roundw
              case rel =>
                refine ⟨k + 1, by omega, by go_num, fun j hj => ?_, hoo⟩
                by_cases e : j = k
                · subst e; exact H0.out
                · exact HNR.out j (by omega)
              case measure => (simp [intOf]; try omega)
          · obtain rfl : k = i := by omega
            have hx := planCheck_ok (p := p) ⟨by rw [HL.out]; exact h30', fun j hj => HF.out j (by rw [HL.out] at hj; exact hj), fun j hj => HNR.out j (by rw [HL.out] at hj; exact hj)⟩
            rw [HC.out] at hx
            obtain ⟨rfl, rfl⟩ := Prod.mk.inj hx
            clear hx hlt hk
            go_wp2
            go_ret2
            exact ⟨rfl, ho⟩

theorem plan_Right (v : Value) (p : PlanL) (w : World) (h : InPlan w v p) :
    Calls Tryd.prog 43 #[v] w fun e w' => e = .returned (errV (planFault p)) ∧ Only [] w w' := by
  have hc := plan_Check v p w h
  unfold planFault
  obtain ⟨⟨pi, pe⟩, hpc⟩ : ∃ x, planCheck p = x := ⟨_, rfl⟩
  rw [hpc] at hc ⊢
  replace hc : Calls _ _ _ _ fun e w' => e = .returned (.tuple #[.int .i64 pi, errV pe]) ∧ Only [] w w' := hc
  show Calls _ _ _ _ fun e w' => e = .returned (errV pe) ∧ Only [] w w'
  clear hpc h
  generalize errV pe = ev at *
  go_enter Tryd.func43, Tryd.ntmps43
  go_wp2_with fail
  refine hc.mono ?_
  rintro e w1 ⟨rfl, ho⟩
  clear hc
  go_wp2
  go_ret
  exact ⟨rfl, ho⟩

end Go.Proofs.YtmopbimineoogaaDoor

namespace Go.Proofs.YtmopbimineoogaaDoor
open Go.RowKit

theorem hands_yes (n : Int) (w : World) (h1 : 1 ≤ n) (h2 : n ≤ 6) :
    Calls Tryd.prog 44 #[.int .i64 n] w fun e w' => e = .returned (.bool true) ∧ w = w' := by
  go_enter Tryd.func44, Tryd.ntmps44
  go_wp2
  go_ret
  exact ⟨by simp, rfl⟩

theorem hands_no (n : Int) (w : World) (h : n < 1 ∨ 6 < n) :
    Calls Tryd.prog 44 #[.int .i64 n] w fun e w' => e = .returned (.bool false) ∧ w = w' := by
  rcases h with h | h
  · go_enter Tryd.func44, Tryd.ntmps44
    go_wp2
    go_ret
    exact ⟨rfl, rfl⟩
  · have h1 : 1 ≤ n := by omega
    go_enter Tryd.func44, Tryd.ntmps44
    go_wp2
    go_ret
    exact ⟨by simp; omega, rfl⟩
end Go.Proofs.YtmopbimineoogaaDoor

namespace Go.Proofs.YtmopbimineoogaaDoor
open Go.RowKit Go.Deep

/-- What is wrong with a plan, and hands. -/
noncomputable def hErr (p : PlanL) (hands : Int) : Int := if planFault p = 0 then (if 1 ≤ hands ∧ hands ≤ 6 then 0 else 1) else planFault p

theorem hErr_ok {p : PlanL} {hands : Int} (h : PlanOk p) (h1 : 1 ≤ hands) (h6 : hands ≤ 6) : hErr p hands = 0 := by
  unfold hErr; rw [if_pos ((planOk_iff p).1 h), if_pos ⟨h1, h6⟩]
theorem hErr_zero {p : PlanL} {hands : Int} (h : hErr p hands = 0) : PlanOk p ∧ 1 ≤ hands ∧ hands ≤ 6 := by
  unfold hErr at h
  by_cases hp : planFault p = 0
  · rw [if_pos hp] at h
    by_cases hh : 1 ≤ hands ∧ hands ≤ 6
    · exact ⟨(planOk_iff p).2 hp, hh⟩
    · rw [if_neg hh] at h; cases h
  · rw [if_neg hp] at h; exact absurd h hp

end Go.Proofs.YtmopbimineoogaaDoor

namespace Go.Proofs.YtmopbimineoogaaDoor
open Go.RowKit Go.Deep

set_option maxRecDepth 100000 in
theorem judge_ready (v : Value) (p : PlanL) (hands : Int) (w : World) (h : InPlan w v p) :
    Calls Tryd.prog 30 #[v, .int .i64 hands] w fun e w' => e = .returned (errV (hErr p hands)) ∧ Only [] w w' := by
  have hr := plan_Right v p w h
  unfold hErr
  obtain ⟨f, hf⟩ : ∃ f, planFault p = f := ⟨_, rfl⟩
  rw [hf] at hr ⊢
  clear hf h
  by_cases h0 : f = 0
  · subst h0
    rw [if_pos rfl]
    rw [errV_zero] at hr
    by_cases hh : 1 ≤ hands ∧ hands ≤ 6
    · rw [if_pos hh]
      obtain ⟨h1, h6⟩ := hh
      go_enter Tryd.func30, Tryd.ntmps30
      go_wp2_with fail
      refine hr.mono ?_
      rintro e w1 ⟨rfl, ho⟩
      clear hr
      go_wp2_with (go_at_call 44; refine (hands_yes _ _ h1 h6).mono ?_; rintro e w2 ⟨rfl, rfl⟩)
      go_ret
      exact ⟨rfl, ho⟩
    · rw [if_neg hh]
      have hh2 : hands < 1 ∨ 6 < hands := by omega
      clear hh
      go_enter Tryd.func30, Tryd.ntmps30
      go_wp2_with fail
      refine hr.mono ?_
      rintro e w1 ⟨rfl, ho⟩
      clear hr
      go_wp2_with (go_at_call 44; refine (hands_no _ _ hh2).mono ?_; rintro e w2 ⟨rfl, rfl⟩)
      go_ret
      exact ⟨rfl, ho⟩
  · rw [if_neg h0]
    have hE := errV_ne h0
    rw [hE] at hr
    have HE := Lib.hid hE
    clear h0 hE
    go_enter Tryd.func30, Tryd.ntmps30
    go_wp2_with fail
    refine hr.mono ?_
    rintro e w1 ⟨rfl, ho⟩
    clear hr
    go_wp2
    go_ret
    exact ⟨by rw [HE.out]; rfl, ho⟩

end Go.Proofs.YtmopbimineoogaaDoor

namespace Go.Proofs.YtmopbimineoogaaDoor
open Go.RowKit

theorem mem_nth {l : List Int} {x : Int} : x ∈ l ↔ ∃ j, j < l.length ∧ nth l j = x := by
  constructor
  · intro h
    obtain ⟨j, hj, e⟩ := List.getElem_of_mem h
    exact ⟨j, hj, by simp [nth, hj, e]⟩
  · rintro ⟨j, hj, rfl⟩
    simp [nth, hj]



end Go.Proofs.YtmopbimineoogaaDoor
