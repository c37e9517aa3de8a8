/-
  Contracts of plan.Check and plan.Right.
  yardsame.Error at an error and its own number.
  Contracts of slices.Index and slices.Contains at []int.
-/
import Derived.Test.YtoofalchkedciaaGreatDoorP14PlanTells
import Derived.Test.YtoofalchkedciaaGreatDoorP2PlanTells
import Derived.Test.YtoofalchkedciaaGreatDoorP4PlanTells
namespace Go.Proofs.YtoofalchkedciaaGreatDoor
open Go.RowKit

theorem errV_zero : errV 0 = .nilIface := rfl
theorem errV_ne {e : Int} (h : e ≠ 0) : errV e = .iface 98 (.int .i64 e) := by unfold errV; rw [if_neg h]

open Classical in
set_option maxRecDepth 100000 in
set_option maxHeartbeats 2000000 in
theorem plan_Check (v : Value) (p : PlanL) (w : World) (h : InPlan w v p) :
    Calls Tryz.prog 10 #[v] w fun e w' => e = .returned (.tuple #[.int .i64 (planCheck p).1, errV (planCheck p).2]) ∧ Only [] w w' := by
  have HP := Lib.hid h
  obtain ⟨a, cap, rfl, hc1, hc2, _⟩ := h.task
  obtain ⟨n, hn⟩ : ∃ n, p.length = n := ⟨_, rfl⟩
  obtain ⟨⟨pi, pe⟩, hpc⟩ : ∃ x, planCheck p = x := ⟨_, rfl⟩
  have HC := Lib.hid hpc
  have HL := Lib.hid hn
  rw [hpc]
  rw [hn] at hc1 HP ⊢
  have hc3 : n ≤ 9223372036854775807 := by unfold maxLen at hc2; omega
  clear h hn hpc hc2
  show Calls _ _ _ _ fun e w' => e = .returned (.tuple #[.int .i64 pi, errV pe]) ∧ Only [] w w'
  by_cases h30 : 30 < n
  · have hx := planCheck_full (p := p) (by rw [HL.out]; exact h30)
    rw [HC.out] at hx
    obtain ⟨rfl, rfl⟩ := Prod.mk.inj hx
    clear hx
    go_enter Tryz.func10, Tryz.ntmps10
    go_wp2
    go_ret2
    exact ⟨rfl, Only.refl _ _⟩
  · have h30' : n ≤ 30 := by omega
    clear h30
    go_enter Tryz.func10, Tryz.ntmps10
    go_wp2_with fail
    go_loopw [13] (fun vi wr => ∃ i : Nat, i ≤ n ∧ vi = .int .i64 i ∧ (∀ j, j < i → taskFault p.length (p[j]?.getD (0, [])) = 0) ∧ Only [] w wr) (fun vi _ => n - (intOf vi).toNat)
    case atStart => exact ⟨0, Nat.zero_le _, rfl, fun j hj => by omega, Only.refl _ _⟩
    case round =>
      obtain ⟨i, hi, rfl, hf, ho⟩ := hrel
      have HF := Lib.hid hf
      clear hf
      by_cases hlt : i < n
      · have ht := plan_task _ p i wr (HP.out.same ho) (by rw [HL.out]; exact hlt)
        by_cases h0 : taskFault p.length (p[i]?.getD (0, [])) = 0
        · rw [h0, errV_zero] at ht
          have H0 := Lib.hid h0
          clear h0
          go_wp2_with fail
          refine ht.mono ?_
          rintro e w1 ⟨rfl, ho1⟩
          have hoo := ho.trans ho1 (by simp)
          clear ht ho ho1
          go_wp2
          go_roundw
          case rel =>
            refine ⟨i + 1, by omega, by go_num, fun j hj => ?_, hoo⟩
            by_cases e : j = i
            · subst e; exact H0.out
            · exact HF.out j (by omega)
          case measure => (simp [intOf]; try omega)
        · have hx := planCheck_task (p := p) (by rw [HL.out]; exact h30') (by rw [HL.out]; exact hlt) HF.out rfl h0
          rw [HC.out] at hx
          obtain ⟨e1, e2⟩ := Prod.mk.inj hx
          rw [errV_ne h0, ← e2] at ht
          have H1 : Hid (pi = i ∧ pe ≠ 0) := ⟨e1, by rw [e2]; exact h0⟩
          clear h0 hx e1 e2
          go_wp2_with fail
          refine ht.mono ?_
          rintro e w1 ⟨rfl, ho1⟩
          have hoo := ho.trans ho1 (by simp)
          clear ht ho ho1
          go_wp2
          go_ret2
          exact ⟨by rw [errV_ne H1.out.2, H1.out.1]; rfl, hoo⟩
      · obtain rfl : i = n := by omega
        have hN := Lib.hid (needsOk (p := p) (by rw [HL.out]; exact h30') (fun j hj => HF.out j (by rw [HL.out] at hj; exact hj)))
        clear hlt hi
        go_wp2_with fail
        go_loopw [26] (fun vi wr2 => ∃ k : Nat, k ≤ i ∧ vi = .int .i64 k ∧ (∀ j, j < k → ¬ Reach p j j) ∧ Only [] w wr2) (fun vi _ => i - (intOf vi).toNat)
        case atStart => exact ⟨0, Nat.zero_le _, rfl, fun j hj => by omega, ho⟩
        case round =>
          obtain ⟨k, hk, rfl, hnr, ho⟩ := hrel
          have HNR := Lib.hid hnr
          clear hnr
          by_cases hlt : k < i
          · have ht := plan_reaches _ p k _ (HP.out.same ho) (by rw [HL.out]; exact hlt) hN.out
            by_cases h0 : Reach p k k
            · rw [decide_eq_true h0] at ht
              have hx := planCheck_cycle (p := p) (by rw [HL.out]; exact h30') (fun j hj => HF.out j (by rw [HL.out] at hj; exact hj)) (by rw [HL.out]; exact hlt) HNR.out h0
              rw [HC.out] at hx
              obtain ⟨rfl, rfl⟩ := Prod.mk.inj hx
              clear hx h0
              go_wp2_with fail
              refine ht.mono ?_
              rintro e w1 ⟨rfl, ho1⟩
              have hoo := ho.trans ho1 (by simp)
              clear ht ho ho1
              go_wp2
              go_ret2
              exact ⟨rfl, hoo⟩
            · rw [decide_eq_false h0] at ht
              have H0 := Lib.hid h0
              clear h0
              go_wp2_with fail
              refine ht.mono ?_
              rintro e w1 ⟨rfl, ho1⟩
              have hoo := ho.trans ho1 (by simp)
              clear ht ho ho1
              go_wp2
              go_roundw
              case rel =>
                refine ⟨k + 1, by omega, by go_num, fun j hj => ?_, hoo⟩
                by_cases e : j = k
                · subst e; exact H0.out
                · exact HNR.out j (by omega)
              case measure => (simp [intOf]; try omega)
          · obtain rfl : k = i := by omega
            have hx := planCheck_ok (p := p) ⟨by rw [HL.out]; exact h30', fun j hj => HF.out j (by rw [HL.out] at hj; exact hj), fun j hj => HNR.out j (by rw [HL.out] at hj; exact hj)⟩
            rw [HC.out] at hx
            obtain ⟨rfl, rfl⟩ := Prod.mk.inj hx
            clear hx hlt hk
            go_wp2
            go_ret2
            exact ⟨rfl, ho⟩

theorem plan_Right (v : Value) (p : PlanL) (w : World) (h : InPlan w v p) :
    Calls Tryz.prog 52 #[v] w fun e w' => e = .returned (errV (planFault p)) ∧ Only [] w w' := by
  have hc := plan_Check v p w h
  unfold planFault
  obtain ⟨⟨pi, pe⟩, hpc⟩ : ∃ x, planCheck p = x := ⟨_, rfl⟩
  rw [hpc] at hc ⊢
  replace hc : Calls _ _ _ _ fun e w' => e = .returned (.tuple #[.int .i64 pi, errV pe]) ∧ Only [] w w' := hc
  show Calls _ _ _ _ fun e w' => e = .returned (errV pe) ∧ Only [] w w'
  clear hpc h
  generalize errV pe = ev at *
  go_enter Tryz.func52, Tryz.ntmps52
  go_wp2_with fail
  refine hc.mono ?_
  rintro e w1 ⟨rfl, ho⟩
  clear hc
  go_wp2
  go_ret
  exact ⟨rfl, ho⟩

end Go.Proofs.YtoofalchkedciaaGreatDoor

namespace Go.Proofs.YtoofalchkedciaaGreatDoor
open Go.RowKit

theorem same_errV (n : Int) (w : World) (hg : Glob w) : Calls Tryz.prog 11 #[errV n, .int .i64 n] w fun e w' => e = .returned (.bool true) ∧ Only [] w w' := by
  by_cases h : n = 0
  · subst h
    rw [errV_zero]
    refine (same_nil 0 w true rfl).mono ?_
    rintro e w' ⟨he, rfl⟩
    exact ⟨he, Only.refl _ _⟩
  · rw [errV_ne h]
    exact same_err n n w hg true (by simp)

end Go.Proofs.YtoofalchkedciaaGreatDoor

namespace Go.Proofs.YtoofalchkedciaaGreatDoor
open Go.RowKit

theorem mem_nth {l : List Int} {x : Int} : x ∈ l ↔ ∃ j, j < l.length ∧ nth l j = x := by
  constructor
  · intro h
    obtain ⟨j, hj, e⟩ := List.getElem_of_mem h
    exact ⟨j, hj, by simp [nth, hj, e]⟩
  · rintro ⟨j, hj, rfl⟩
    simp [nth, hj]

set_option maxHeartbeats 400000 in
theorem index_ints (v : Value) (l : List Int) (x : Int) (w : World) (h : Reads w v l) (hl : l.length ≤ 1000000000) (r : Bool) (hr : decide (x ∈ l) = r) :
    Calls Tryz.prog 154 #[v, .int .i64 x] w fun e w' => (∃ i : Int, e = .returned (.int .i64 i) ∧ decide (0 ≤ i) = r) ∧ w = w' := by
  rcases h with ⟨rfl, hv⟩ | ⟨h0, b, off, cap, rfl, h1, h2, h3⟩
  · obtain rfl : r = false := by simpa using hr.symm
    have hv' : ∃ a c, v = .slice a 0 c := by
      rcases hv with rfl | ⟨y, c, rfl, _⟩
      · exact ⟨_, _, rfl⟩
      · exact ⟨_, _, rfl⟩
    obtain ⟨a, c, rfl⟩ := hv'
    clear hv hr
    go_enter Tryz.func154, Tryz.ntmps154
    go_wp2_with fail
    refine wp_loop_rounds 1 ?_
    rw [rounds_succ]
    go_wp2
    go_ret
    exact ⟨⟨-1, rfl, by decide⟩, rfl⟩
  · have HR := Lib.hid hr
    clear hr
    generalize hn : l.length = n at *
    have Hn := Lib.hid hn
    clear hn
    go_enter Tryz.func154, Tryz.ntmps154
    go_wp2_with fail
    go_loop [8] (fun i => ∃ k : Nat, k ≤ n ∧ i = .int .i64 k ∧ ∀ j, j < k → nth l j ≠ x) (fun i => n - (intOf i).toNat)
    case atStart => exact ⟨0, Nat.zero_le _, rfl, fun j hj => by omega⟩
    case round =>
      obtain ⟨k, hk, rfl, hno⟩ := hrel
      by_cases hlt : k < n
      · have hc := h3 k hlt
        have HNO := Lib.hid hno
        clear h3 hno
        by_cases he : x = nth l k
        · have hq : (x == nth l k) = true := by simpa using he
          have HE := Lib.hid he
          clear he
          go_wp2
          go_ret
          exact ⟨⟨k, rfl, by rw [← HR.out]; simp; exact mem_nth.2 ⟨k, by rw [Hn.out]; exact hlt, HE.out.symm⟩⟩, rfl⟩
        · have hq : (x == nth l k) = false := by simpa using he
          have HE := Lib.hid he
          clear he
          go_wp2
          go_round
          case rel =>
            refine ⟨k + 1, by omega, by go_num, fun j hj => ?_⟩
            by_cases hjk : j = k
            · subst hjk; exact fun e => HE.out e.symm
            · exact HNO.out j (by omega)
          case measure => simp [intOf]; omega
      · obtain rfl : k = n := by omega
        have HNO := Lib.hid hno
        clear h3 hno
        go_wp2
        go_ret
        refine ⟨⟨-1, rfl, ?_⟩, rfl⟩
        rw [← HR.out]
        have : x ∉ l := fun hx => by
          obtain ⟨j, hj, e⟩ := mem_nth.1 hx
          exact HNO.out j (by rw [Hn.out] at hj; exact hj) e
        simp [this]

theorem contains_ints (v : Value) (l : List Int) (x : Int) (w : World) (h : Reads w v l) (hl : l.length ≤ 1000000000) (r : Bool) (hr : decide (x ∈ l) = r) :
    Calls Tryz.prog 106 #[v, .int .i64 x] w fun e w' => e = .returned (.bool r) ∧ w = w' := by
  have HR := Lib.hid hr
  clear hr
  go_enter Tryz.func106, Tryz.ntmps106
  go_wp2_with fail
  refine (index_ints v l x w h hl r HR.out).mono ?_
  rintro e w1 ⟨⟨i, rfl, hi⟩, rfl⟩
  go_wp2
  go_ret
  exact ⟨rfl, rfl⟩

end Go.Proofs.YtoofalchkedciaaGreatDoor
