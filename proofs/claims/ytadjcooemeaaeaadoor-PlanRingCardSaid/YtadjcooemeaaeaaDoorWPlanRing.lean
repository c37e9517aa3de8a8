/-
  The statement PlanRing: a ring is none: of tasks around, each of which needs the one ahead, the first is told; without one link there is an order. No condition but the listed variable's.
-/
import Derived.Test.YtadjcooemeaaeaaDoorFrame
import Derived.Test.YtadjcooemeaaeaaDoorTellFrame
import Derived.Test.YtadjcooemeaaeaaDoorPlanQ
import Derived.Test.YtadjcooemeaaeaaDoorChain
import Derived.Test.YtadjcooemeaaeaaDoorChainG
import Derived.Test.YtadjcooemeaaeaaDoorSubM
import Derived.Test.YtadjcooemeaaeaaDoorTold
namespace Go.Proofs.YtadjcooemeaaeaaDoor.planRing
open Go.ChangeShapes Go.WideShapes Go.ChangeAt Go.RowKit
open Go.ChangeMaps (open_string shut_string)
set_option linter.unusedVariables false


def ringP (n : Nat) : PlanL := (List.range n).map fun (i : Nat) => (1, [if i = 0 then (n : Int) - 1 else (i : Int) - 1])
theorem ringP_len (n : Nat) : (ringP n).length = n := by simp [ringP]
theorem ring_wk (n i : Nat) (h : i < n) : wkOf (ringP n) i = 1 := by simp [wkOf, ringP, h]
theorem ring_nd (n i : Nat) (h : i < n) : ndOf (ringP n) i = [if i = 0 then (n : Int) - 1 else (i : Int) - 1] := by simp [ndOf, ringP, h]

theorem ring_reach (n : Nat) (d : Nat) (hd : d < n) : Reach (ringP n) 0 (n - 1 - d) := by
  induction d with
  | zero =>
    refine .one ?_
    rw [ring_nd n 0 (by omega), if_pos rfl, List.mem_singleton]
    omega
  | succ d ih =>
    refine .more (ih (by omega)) ?_
    rw [ring_nd n _ (by omega), if_neg (by omega), List.mem_singleton]
    omega

theorem ring_check (n : Nat) (h1 : 1 ≤ n) (h30 : n ≤ 30) : planCheck (ringP n) = (0, 8) := by
  have hl := ringP_len n
  refine planCheck_cycle (by omega) (fun j hj => ?_) (by omega) (fun j hj => by omega) ?_
  · rw [hl] at hj ⊢
    have e : (ringP n)[j]?.getD (0, []) = (1, [if j = 0 then (n : Int) - 1 else (j : Int) - 1]) := by simp [ringP, hj]
    rw [e]
    unfold taskFault
    rw [if_neg, if_pos (by rfl)]
    simp only [List.any_cons, List.any_nil, Bool.or_false, outOf, Bool.or_eq_true, decide_eq_true_eq]
    split <;> omega
  · have := ring_reach n (n - 1) (by omega)
    rwa [show n - 1 - (n - 1) = 0 by omega] at this

theorem chain_first (n : Nat) (h1 : 1 ≤ n) (h30 : n ≤ 30) : ∃ l, natL (orderOf (chainP n 1)) = 0 :: l ∧ l.length + 1 = n := by
  have hok := chain_ok n 1 h30 (by omega) (by omega)
  have hl := chainP_len n 1
  obtain ⟨i, hi, hr, hlo, e⟩ := topo_step hok 0 (by omega) rfl
  have h0 : i = 0 := by
    rcases Nat.eq_zero_or_pos i with h | h
    · exact h
    · have := hlo 0 h
      rw [show readyB (chainP n 1) (fun j => (topo (chainP n 1) 0).contains j) 0 = true by
        unfold readyB
        rw [chain_nd n 1 0 (by omega), if_pos rfl]
        simp [topo]] at this
      cases this
  subst h0
  have ht := topo_take hok 1 (by omega)
  rw [e] at ht
  have hlen := topo_len hok (chainP n 1).length (Nat.le_refl _)
  change (orderOf (chainP n 1)).length = _ at hlen
  cases ho : orderOf (chainP n 1) with
  | nil => rw [ho] at hlen; simp at hlen; omega
  | cons x l =>
    rw [ho] at ht hlen
    simp [topo] at ht
    subst ht
    refine ⟨natL l, rfl, ?_⟩
    rw [natL_len]
    simp at hlen
    omega

set_option maxHeartbeats 8000000 in
set_option maxRecDepth 100000 in
theorem walk (a0 : Int) (a1 : Bool) (w : World) (hglob : Glob w) (w0 : (Lit.int .i64 a0).wf = true) :
    Calls Tryd.prog 4 #[.int .i64 a0, .bool a1] w fun e w' => e = .returned (.bool true) ∧ Below w.heap.size w w' := by
  clear w0
  have HG := Lib.hid hglob
  clear hglob
  go_enter Tryd.func4, Tryd.ntmps4
  by_cases hin : 1 ≤ a0 ∧ a0 ≤ 30
  · obtain ⟨g1, g2⟩ := hin
    obtain ⟨n, rfl⟩ := Int.eq_ofNat_of_zero_le (show 0 ≤ a0 by omega)
    have hn1 : 1 ≤ n := by omega
    have hn30 : n ≤ 30 := by omega
    go_wp2_with fail
    refine (law_chain n 1 w hn30).mono ?_
    rintro e w1 ⟨v1, rfl, hO1, ho1⟩
    have hlen := chainP_len n 1
    obtain ⟨g, cap, rfl, hgf⟩ : ∃ g cap, v1 = .slice (some ⟨g, 0, none⟩) n cap ∧ w.heap.size ≤ g ∧ g < w1.heap.size := by
      have hf := hO1.far
      obtain ⟨N, k1, _⟩ := hO1
      rcases k1.2 with ⟨_, h0⟩ | ⟨g, cap, cur, rfl, _⟩
      · omega
      · exact ⟨g, cap, by rw [hlen], hf g (by simp [own, Value.ownBlock])⟩
    have HgL := Lib.hid hgf
    cases a1
    · obtain ⟨ua, uc, c0, c1, f1, _⟩ := hO1.at 0 (by omega)
      have hwr : IntKind.i64.wrap ((n : Int) - 1) = (n : Int) - 1 := IntWalk.i64_in _ (by omega)
      obtain ⟨W, hW⟩ : ∃ W, (w1.alloc (.cells #[.int .i64 ((n : Int) - 1)] 3)).setCell ⟨g, 1, none⟩ (.slice (some ⟨w1.heap.size, 0, none⟩) 1 1) = W := ⟨_, rfl⟩
      have hal : Only [] w1 (w1.alloc (.cells #[.int .i64 ((n : Int) - 1)] 3)) := (Only.refl [] w1).alloc _
      have hset : Only [g] (w1.alloc (.cells #[.int .i64 ((n : Int) - 1)] 3)) W := by rw [← hW]; exact (Only.refl _ _).setCell (by simp) _
      have hoW : Hid (Only [] w W) := (ho1.trans hal (by simp)).trans hset (fun x hx hl => by simp at hx; subst hx; have := HgL.out.1; omega)
      have hQ : Hid (OwnPlan W w.heap.size (fun x => w.heap.size ≤ x) (.slice (some ⟨g, 0, none⟩) n cap) (ringP n)) := by
        show OwnPlan _ _ _ _ _
        rw [← hW]
        refine (hO1.same hal).setNeeds (F' := fun x => w.heap.size ≤ x) (l := [(n : Int) - 1]) 0 (by omega) (by rw [ringP_len, hlen]) (fun i hi => ?_) (fun i hi => ?_) ?_ (fun x hx => hx) (fun _ x hx => ?_)
        · rw [hlen] at hi
          rw [chain_wk n 1 i hi, ring_wk n i hi]
        · rw [hlen] at hi
          rw [ring_nd n i hi, chain_nd n 1 i hi]
          by_cases e : i = 0
          · simp [e]
          · simp [e]
        · refine .inr ⟨by simp, w1.heap.size, 0, 1, rfl, by simp, by unfold maxLen; omega, fun i hi => ?_⟩
          obtain rfl : i = 0 := by simp at hi; omega
          rw [World.cell?_alloc_at _ _ _ _ (by simp)]
          rfl
        · have h1 : x = w1.heap.size := by simpa [own, Value.ownBlock] using hx
          subst h1
          exact ⟨by have := ho1.size; omega, by have := HgL.out.2; omega⟩
      have hC := plan_Check _ _ W hQ.out.plan
      rw [ring_check n hn1 hn30, errV_ne (by decide)] at hC
      have hf : planFault (ringP n) = 8 := by unfold planFault; rw [ring_check n hn1 hn30]
      have hR := Lib.hid (fun w2 (ho : Only [] W w2) => plan_Order_no _ _ w2 (hQ.out.same ho).plan (by rw [hf]; decide))
      rw [hf, errV_ne (by decide)] at hR
      clear hO1 ho1 hal hset hf
      go_wp2_with fail
      refine hC.mono ?_
      rintro e w2 ⟨rfl, ho2⟩
      have hR2 := hR.out w2 ho2
      have ho2 := hoW.out.trans ho2 (by simp)
      clear hC hR
      go_wp2_with fail
      refine hR2.mono ?_
      rintro e w3 ⟨rfl, ho3⟩
      have ho3 := ho2.trans ho3 (by simp)
      have hgl := HG.out.only ho3
      clear hR2 ho2
      go_wp2_with fail
      refine (same_err 8 8 _ hgl true rfl).mono ?_
      rintro e w4 ⟨rfl, ho4⟩
      go_wp2
      go_ret
      exact ⟨by rfl, (ho3.trans ho4 (by simp)).below (Nat.le_refl _) (by simp)⟩
    · have hok := chain_ok n 1 hn30 (by omega) (by omega)
      have hC := plan_Check _ _ w1 hO1.plan
      rw [planCheck_ok hok, errV_zero] at hC
      have hR := Lib.hid (fun w2 (ho : Only [] w1 w2) => plan_Order_ok _ _ w2 (hO1.same ho).plan hok)
      obtain ⟨l, hl1, hl2⟩ := chain_first n hn1 hn30
      rw [hl1] at hR
      clear hO1 hok hl1
      go_wp2_with fail
      refine hC.mono ?_
      rintro e w2 ⟨rfl, ho2⟩
      have hR2 := hR.out w2 ho2
      have ho2 := ho1.trans ho2 (by simp)
      clear hC hR
      go_wp2_with fail
      refine hR2.mono ?_
      rintro e w3 ⟨v3, rfl, hI, ho3⟩
      have ho3 := ho2.trans ho3 (by simp)
      obtain ⟨g3, c3, rfl, _⟩ := hI.sized n (by simp; omega) (by omega)
      have c0 := hI.cell 0 (by simp)
      clear hR2 ho2 hI
      go_wp2
      go_ret
      exact ⟨by rfl, ho3.below (Nat.le_refl _) (by simp)⟩
  · have hin2 : a0 < 1 ∨ (1 ≤ a0 ∧ 30 < a0) := by omega
    rcases hin2 with h | ⟨h1, h2⟩
    all_goals
      go_wp2
      go_ret
      exact ⟨by rfl, (Only.refl [] w).below (Nat.le_refl _) (by simp)⟩

end Go.Proofs.YtadjcooemeaaeaaDoor.planRing
