/-
  Contracts of package groups at whatever groups: Check, ready, Gone, Cancel.
-/
import Derived.Test.YtadjcooemeaaeaaDoorGroups
import Derived.Test.YtadjcooemeaaeaaDoorGroupP
namespace Go.Proofs.YtadjcooemeaaeaaDoor
open Go.RowKit Go.Deep Go.ChangeShapes Go.WideShapes

/- What is wrong with groups. -/
open Classical in
noncomputable def grpFault (n : Nat) (P : Nat → Int) : Int := if 12 < n then 4 else if Tree n P then 0 else 1

theorem grpFault_ok {n : Nat} {P : Nat → Int} (h : n ≤ 12) (ht : Tree n P) : grpFault n P = 0 := by unfold grpFault; rw [if_neg (by omega), if_pos ht]
theorem grpFault_zero {n : Nat} {P : Nat → Int} (h : grpFault n P = 0) : n ≤ 12 ∧ Tree n P := by
  unfold grpFault at h
  by_cases h1 : 12 < n
  · rw [if_pos h1] at h; cases h
  · rw [if_neg h1] at h
    by_cases h2 : Tree n P
    · exact ⟨by omega, h2⟩
    · rw [if_neg h2] at h; cases h

theorem inGroups_len {w : World} {v : Value} {n : Nat} {P : Nat → Int} {C : Nat → Bool} (h : InGroups w v n P C) : n ≤ 9223372036854775807 := by
  obtain ⟨a, cap, rfl, h1, h2, _⟩ := h
  unfold maxLen at h2; omega

set_option maxRecDepth 100000 in
set_option maxHeartbeats 1000000 in
theorem groups_Check (v : Value) (n : Nat) (P : Nat → Int) (C : Nat → Bool) (w : World) (h : InGroups w v n P C) :
    Calls Tryd.prog 26 #[v] w fun e w' => e = .returned (errV (grpFault n P)) ∧ Only [] w w' := by
  by_cases hok : grpFault n P = 0
  · obtain ⟨h6, ht⟩ := grpFault_zero hok
    rw [hok]
    exact groups_check_ok v n P C w h h6 ht
  · have hE := errV_ne hok
    rw [hE]
    have hn := inGroups_len h
    unfold grpFault at hok ⊢
    obtain ⟨a, cap, rfl, h1, h2, h0, h3⟩ := h
    clear h0 hE h2
    by_cases h12 : 12 < n
    · rw [if_pos h12]
      clear hok h3
      go_enter Tryd.func26, Tryd.ntmps26
      go_wp2
      go_ret
      exact ⟨rfl, Only.refl _ _⟩
    · rw [if_neg h12] at hok ⊢
      have ht : ¬ Tree n P := fun ht => hok (if_pos ht)
      rw [if_neg ht]
      have HT := Lib.hid ht
      have hn12 : n ≤ 12 := by omega
      clear hok ht h12
      go_enter Tryd.func26, Tryd.ntmps26
      go_wp2_with fail
      go_loopw [11] (fun i wr => ∃ k : Nat, k ≤ n ∧ i = .int .i64 k ∧ (∀ j, j < k → -1 ≤ P j ∧ P j < j) ∧ Only [] w wr) (fun i _ => n - (intOf i).toNat)
      case atStart => exact ⟨0, Nat.zero_le _, rfl, fun j hj => by omega, Only.refl _ _⟩
      case round =>
        obtain ⟨k, hk, rfl, hgood, ho⟩ := hrel
        have HGOOD := Lib.hid hgood
        clear hgood
        by_cases hlt : k < n
        · obtain ⟨b, off, rfl, k0, k1⟩ := h3 k hlt
          have c0 := (ho.cell (p := ⟨b, _, none⟩) (cell_lt k0) (by simp)).trans k0
          have c1 := (ho.cell (p := ⟨b, _, none⟩) (cell_lt k1) (by simp)).trans k1
          have ho2 := Lib.hid (ho.alloc (.cells #[.int .i64 (P k), .bool (C k)] 61))
          obtain ⟨x, hx⟩ : ∃ x, P k = x := ⟨_, rfl⟩
          have HX := Lib.hid hx
          rw [hx] at c0 ho2
          clear h3 k0 k1 ho hx
          by_cases hg : -1 ≤ x ∧ x < k
          · obtain ⟨g1, g2⟩ := hg
            go_wp2
            go_roundw
            case rel =>
              refine ⟨k + 1, by omega, by go_num, fun j hj => ?_, ho2.out⟩
              by_cases e : j = k
              · subst e; rw [HX.out]; exact ⟨g1, g2⟩
              · exact HGOOD.out j (by omega)
            case measure => (simp [intOf]; try omega)
          · have hg2 : x < -1 ∨ (-1 ≤ x ∧ (k : Int) ≤ x) := by omega
            clear hg
            rcases hg2 with hg | ⟨hg, hg2⟩
            all_goals
              go_wp2
              go_ret
              exact ⟨rfl, ho2.out⟩
        · obtain rfl : n = k := by omega
          exact absurd HGOOD.out HT.out

/-- What is wrong with groups, and one of them. -/
noncomputable def grErr (n : Nat) (P : Nat → Int) (i : Int) : Int := if grpFault n P = 0 then (if 0 ≤ i ∧ i < n then 0 else 1) else grpFault n P
theorem grErr_zero {n : Nat} {P : Nat → Int} {i : Int} (h : grErr n P i = 0) : n ≤ 12 ∧ Tree n P ∧ 0 ≤ i ∧ i < n := by
  unfold grErr at h
  by_cases h1 : grpFault n P = 0
  · rw [if_pos h1] at h
    by_cases h2 : 0 ≤ i ∧ i < n
    · exact ⟨(grpFault_zero h1).1, (grpFault_zero h1).2, h2⟩
    · rw [if_neg h2] at h; cases h
  · rw [if_neg h1] at h; exact absurd h h1

set_option maxRecDepth 100000 in
theorem groups_ready_no (v : Value) (n : Nat) (P : Nat → Int) (C : Nat → Bool) (i : Int) (w : World) (h : InGroups w v n P C) (he : grErr n P i ≠ 0) :
    Calls Tryd.prog 82 #[v, .int .i64 i] w fun e w' => e = .returned (.iface 115 (.int .i64 (grErr n P i))) ∧ Only [] w w' := by
  by_cases h1 : grpFault n P = 0
  · obtain ⟨h6, ht⟩ := grpFault_zero h1
    have h2 : ¬ (0 ≤ i ∧ i < n) := fun h2 => he (by unfold grErr; rw [if_pos h1, if_pos h2])
    have e : grErr n P i = 1 := by unfold grErr; rw [if_pos h1, if_neg h2]
    rw [e]
    exact groups_ready_out v n P C i w h h6 ht (by omega)
  · have e : grErr n P i = grpFault n P := by unfold grErr; rw [if_neg h1]
    rw [e]
    have hc := groups_Check v n P C w h
    rw [errV_ne h1] at hc
    generalize grpFault n P = f at *
    clear he e h1 h
    go_enter Tryd.func82, Tryd.ntmps82
    go_wp2_with fail
    refine hc.mono ?_
    rintro e w1 ⟨rfl, ho⟩
    clear hc
    go_wp2
    go_ret
    exact ⟨rfl, ho⟩

set_option maxRecDepth 100000 in
theorem groups_Cancel_no (v : Value) (n : Nat) (P : Nat → Int) (C : Nat → Bool) (i : Int) (w : World) (h : InGroups w v n P C) (he : grErr n P i ≠ 0) :
    Calls Tryd.prog 29 #[v, .int .i64 i] w fun e w' => e = .returned (.tuple #[.slice none 0 0, .iface 115 (.int .i64 (grErr n P i))]) ∧ Only [] w w' := by
  have hr := groups_ready_no v n P C i w h he
  generalize grErr n P i = f at *
  clear h he
  go_enter Tryd.func29, Tryd.ntmps29
  go_wp2_with fail
  refine hr.mono ?_
  rintro e w1 ⟨rfl, ho1⟩
  clear hr
  go_wp2
  go_ret2
  exact ⟨rfl, ho1⟩

/-- Groups that came in. -/
def ArgGroups (w : World) (v : Value) (l : List (Int × Bool)) : Prop := InGroups w v l.length (fun i => (l[i]?.getD (0, false)).1) (fun i => (l[i]?.getD (0, false)).2) ∧ ∀ g ∈ l, (Lit.int .i64 g.1).wf = true

set_option maxRecDepth 100000 in
theorem open_groups {H : Type} {enc : TypeId × Value → H} {W : World} {base : Nat} {v : Value} {d : DataW H} {p : List MemPlace}
    (hv : Value.okWide Tryd.prog W .any base 56 v) (h : DataW.Trod enc Tryd.prog W 0 (fun _ => true) true 56 v d p) : ∃ l, ArgGroups W v l := by
  obtain ⟨n, A, B, hp, hAB⟩ := open_pairs Tryd.underlying56 Tryd.underlying61 (by kernel_rfl) rfl rfl (by kernel_rfl) (by kernel_rfl) hv h
  have key : ∀ i, i < n → ∃ x : Int × Bool, A i = .int .i64 x.1 ∧ B i = .bool x.2 ∧ (Lit.int .i64 x.1).wf = true := by
    intro i hi
    obtain ⟨k, x, y, hx, hy⟩ := hAB i hi
    obtain ⟨a, e0, _, wa⟩ := DataW.trod_int Tryd.underlying3 hx
    obtain ⟨b, e1, _⟩ := DataW.trod_bool Tryd.underlying4 hy
    simp at e0 e1
    exact ⟨(a, b), e0, e1, wa⟩
  obtain ⟨q, hq⟩ := choose_lt key
  have hl : ((List.range n).map q).length = n := by simp
  refine ⟨(List.range n).map q, ?_, ?_⟩
  · obtain ⟨a, cap, rfl, h1, h2, h0, h3⟩ := hp
    unfold InGroups
    rw [hl]
    refine ⟨a, cap, rfl, h1, h2, h0, fun i hi => ?_⟩
    obtain ⟨b, off, ha, k0, k1⟩ := h3 i hi
    refine ⟨b, off, ha, ?_, ?_⟩
    · rw [k0, (hq i hi).1]; simp [hi]
    · rw [k1, (hq i hi).2.1]; simp [hi]
  · intro g hg
    obtain ⟨i, hi, rfl⟩ := List.mem_map.1 hg
    exact (hq i (List.mem_range.1 hi)).2.2

end Go.Proofs.YtadjcooemeaaeaaDoor
