/-
  Slices of groups; contracts of package groups: Check, ready, gone, Gone, Cancel.
-/
import Derived.Test.YtadjcooemeaaeaaDoorStruc
namespace Go.Proofs.YtadjcooemeaaeaaDoor
open Go.RowKit

theorem sliceOf_groups : SliceOf 56 61 2 16 :=
  sliceOf_parts (z := .agg #[.int .i64 0, .bool false]) Tryd.underlying56 (by kernel_rfl) rfl (by decide) (by decide)

/-- The cells of n groups, all in a row: P their parents, C who is cancelled. -/
def flatG (P : Nat → Int) (C : Nat → Bool) (n : Nat) : List Value := (List.range (n * 2)).map fun j => if j % 2 = 0 then .int .i64 (P (j / 2)) else .bool (C (j / 2))
def cancel (C : Nat → Bool) (i : Nat) : Nat → Bool := fun j => if j = i then true else C j
theorem flatG_len (P : Nat → Int) (C : Nat → Bool) (n : Nat) : (flatG P C n).length = n * 2 := by simp [flatG]
theorem flatG_one (P : Nat → Int) (C : Nat → Bool) (n : Nat) : ∀ y ∈ flatG P C n, y.oneCell' = true := by
  intro y hy
  obtain ⟨j, _, rfl⟩ := List.mem_map.1 hy
  split <;> rfl
theorem flatG_0 (P : Nat → Int) (C : Nat → Bool) (n i : Nat) (h : i < n) : (flatG P C n)[i * 2]? = some (.int .i64 (P i)) := by
  unfold flatG
  rw [List.getElem?_map, List.getElem?_range (by omega)]
  simp
theorem flatG_1 (P : Nat → Int) (C : Nat → Bool) (n i : Nat) (h : i < n) : (flatG P C n)[i * 2 + 1]? = some (.bool (C i)) := by
  unfold flatG
  rw [List.getElem?_map, List.getElem?_range (by omega)]
  have e1 : (i * 2 + 1) / 2 = i := by omega
  have e2 : (i * 2 + 1) % 2 = 1 := by omega
  simp [e1, e2]
theorem flatG_set (P : Nat → Int) (C : Nat → Bool) (n i : Nat) (h : i < n) : (flatG P C n).set (i * 2 + 1) (.bool true) = flatG P (cancel C i) n := by
  apply List.ext_getElem?
  intro j
  by_cases hj : j < n * 2
  · by_cases e : j = i * 2 + 1
    · subst e
      rw [flatG_1 _ _ _ _ h, List.getElem?_set_self (by rw [flatG_len]; omega)]
      simp [cancel]
    · rw [List.getElem?_set_ne (Ne.symm e)]
      unfold flatG
      rw [List.getElem?_map, List.getElem?_map, List.getElem?_range (by omega)]
      simp only [Option.map_some, Option.some.injEq]
      split
      · rfl
      · rw [cancel, if_neg (by omega)]
  · rw [List.getElem?_eq_none (by rw [List.length_set, flatG_len]; omega), List.getElem?_eq_none (by rw [flatG_len]; omega)]
theorem flatG_push (P : Nat → Int) (C : Nat → Bool) (n : Nat) : flatG P C n ++ [.int .i64 (P n), .bool (C n)] = flatG P C (n + 1) := by
  unfold flatG
  rw [show (n + 1) * 2 = n * 2 + 1 + 1 by omega, List.range_succ, List.range_succ]
  have e1 : (n * 2 + 1) / 2 = n := by omega
  have e2 : (n * 2 + 1) % 2 = 1 := by omega
  simp [e1, e2]

/-- n groups are read from v. -/
def InGroups (w : World) (v : Value) (n : Nat) (P : Nat → Int) (C : Nat → Bool) : Prop := Pairs w v n (fun i => .int .i64 (P i)) (fun i => .bool (C i))

/-- n groups of the call's own. -/
def OwnGroups (w : World) (base : Nat) (v : Value) (n : Nat) (P : Nat → Int) (C : Nat → Bool) : Prop := w.ownsRow base 61 2 v n (flatG P C n)

theorem OwnGroups.cells {w : World} {base g cap : Nat} {n : Nat} {P : Nat → Int} {C : Nat → Bool} (h : OwnGroups w base (.slice (some ⟨g, 0, none⟩) n cap) n P C) (i : Nat) (hi : i < n) :
    w.cell? ⟨g, i * 2, none⟩ = some (.int .i64 (P i)) ∧ w.cell? ⟨g, i * 2 + 1, none⟩ = some (.bool (C i)) ∧ w.frozen? ⟨g, i * 2 + 1, none⟩ = false :=
  ⟨by rw [World.ownsRow.cellAt h _ (by omega), flatG_0 _ _ _ _ hi], by rw [World.ownsRow.cellAt h _ (by omega), flatG_1 _ _ _ _ hi], World.ownsRow.frozenAt h _⟩

theorem OwnGroups.set {w : World} {base g cap : Nat} {n : Nat} {P : Nat → Int} {C : Nat → Bool} (h : OwnGroups w base (.slice (some ⟨g, 0, none⟩) n cap) n P C) (i : Nat) (hi : i < n) :
    OwnGroups (w.setCell ⟨g, i * 2 + 1, none⟩ (.bool true)) base (.slice (some ⟨g, 0, none⟩) n cap) n P (cancel C i) := by
  have := (World.ownsRow.stored h (i * 2 + 1) (.bool true)).1
  rw [flatG_set _ _ _ _ hi] at this
  exact this

theorem OwnGroups.mono {w : World} {base base' : Nat} {v : Value} {n : Nat} {P : Nat → Int} {C : Nat → Bool} (h : OwnGroups w base v n P C) (hb : base' ≤ base) : OwnGroups w base' v n P C := by
  obtain ⟨h1, h2⟩ := h
  refine ⟨h1, ?_⟩
  rcases h2 with h2 | ⟨g, cap, cur, hv, hg, hh, r⟩
  · exact .inl h2
  · exact .inr ⟨g, cap, cur, hv, by omega, hh, r⟩

theorem OwnGroups.reads {w : World} {base : Nat} {v : Value} {n : Nat} {P : Nat → Int} {C : Nat → Bool} (h : OwnGroups w base v n P C) : InGroups w v n P C := by
  have hh := h
  rcases h.2 with ⟨rfl, rfl⟩ | ⟨g, cap, cur, rfl, hb, hg, hc, hm, hs, ht⟩
  · exact ⟨none, 0, rfl, Nat.le_refl _, Nat.zero_le _, fun _ => rfl, fun i hi => by omega⟩
  · refine ⟨_, cap, rfl, hc, hm, (fun h => by cases h), fun i hi => ?_⟩
    obtain ⟨c0, c1, _⟩ := OwnGroups.cells hh i hi
    exact ⟨g, 0, rfl, by rw [Nat.zero_add]; exact c0, by rw [Nat.zero_add]; exact c1⟩

theorem InGroups.at {w : World} {v : Value} {n : Nat} {P : Nat → Int} {C : Nat → Bool} (h : InGroups w v n P C) : RowAt w v n 2 (flatG P C n) := by
  obtain ⟨a, cap, rfl, h1, h2, h0, h3⟩ := h
  refine ⟨flatG_len _ _ _, flatG_one _ _ _, ?_⟩
  by_cases e : n = 0
  · subst e
    left
    refine ⟨rfl, ?_⟩
    cases a with
    | none => left; rw [h0 rfl]
    | some x => exact .inr ⟨x, cap, rfl⟩
  · obtain ⟨b, off, rfl, _, _⟩ := h3 0 (by omega)
    refine .inr ⟨by omega, b, off, cap, rfl, fun j y hy => ?_⟩
    have hj : j < n * 2 := by
      rcases Nat.lt_or_ge j (n * 2) with hl | hl
      · exact hl
      · rw [List.getElem?_eq_none (by rw [flatG_len]; exact hl)] at hy; cases hy
    obtain ⟨b', off', hb, k0, k1⟩ := h3 (j / 2) (by omega)
    injection hb with hb
    injection hb with e1 e2
    subst e1 e2
    unfold flatG at hy
    rw [List.getElem?_map, List.getElem?_range (by omega)] at hy
    simp only [Option.map_some, Option.some.injEq] at hy
    subst hy
    split
    · rw [show off + j / 2 * 2 = off + j by omega] at k0; exact k0
    · rw [show off + j / 2 * 2 + 1 = off + j by omega] at k1; exact k1

set_option maxHeartbeats 400000 in
theorem clone_groups (v : Value) (n : Nat) (P : Nat → Int) (C : Nat → Bool) (w : World) (h : InGroups w v n P C) (hsm : n ≤ 1000) :
    Calls Tryd.prog 84 #[v] w fun e w' => ∃ v', e = .returned v' ∧ OwnGroups w' w.heap.size v' n P C ∧ Only [] w w' := by
  have h := h.at
  have hnil := fun (a : Option Addr) (n c : Nat) (w : World) => Lib.run_eql_slice_nil (P := Tryd.prog) w 56 61 a n c 0 0 Tryd.underlying56
  by_cases hv : v = .slice none 0 0
  · subst hv
    obtain rfl : n = 0 := by
      rcases h.2.2 with ⟨h0, _⟩ | ⟨_, b, off, cap, hb, _⟩
      · exact h0
      · cases hb
    go_enter Tryd.func84, Tryd.ntmps84
    go_wp2
    go_ret
    exact ⟨_, rfl, World.ownsRow_nil _ _ _ _, Only.refl _ _⟩
  · obtain ⟨x, c, rfl⟩ : ∃ x c, v = .slice (some x) n c := by
      rcases h.2.2 with ⟨rfl, rfl | ⟨x, c, rfl⟩⟩ | ⟨_, b, off, cap, rfl, _⟩
      · exact absurd rfl hv
      · exact ⟨x, c, rfl⟩
      · exact ⟨_, _, rfl⟩
    have ho := (Only.refl [] w).alloc (.cells #[] 61)
    have hown : (w.alloc (.cells #[] 61)).ownsRow w.heap.size 61 2 (.slice (some ⟨w.heap.size, 0, none⟩) 0 0) 0 [] := ⟨by simp, .inr ⟨w.heap.size, 0, #[], rfl, Nat.le_refl _, heap_alloc_new _ _, Nat.le_refl _, by unfold maxLen; omega, rfl, rfl⟩⟩
    have hh' := h.same ho
    clear h hv
    go_enter Tryd.func84, Tryd.ntmps84
    go_wp2_with (at_builtin; refine wpList_append_rows sliceOf_groups rfl (.tmp 5) (.tmp 6) rfl _ w.heap.size _ 0 [] _ n _ hown hh' (by omega) (by simp) rfl rfl (Only.refl _ _) ?_; intro v' w' hI hO _)
    rw [Nat.zero_add, List.nil_append] at hI
    have ho2 : Only [] w w' := ho.fresh (B := w.heap.size) (hO.mono (by simp [own, Value.ownBlock])) (Nat.le_refl _)
    clear hown hh' hO hnil
    go_wp2
    go_ret
    exact ⟨_, rfl, hI, ho2⟩

/-- Parents are groups before. -/
def Tree (n : Nat) (P : Nat → Int) : Prop := ∀ i, i < n → -1 ≤ P i ∧ P i < i

set_option maxHeartbeats 1000000 in
theorem groups_check_ok (v : Value) (n : Nat) (P : Nat → Int) (C : Nat → Bool) (w : World) (h : InGroups w v n P C) (h6 : n ≤ 12) (hok : Tree n P) :
    Calls Tryd.prog 26 #[v] w fun e w' => e = .returned .nilIface ∧ Only [] w w' := by
  obtain ⟨a, cap, rfl, h1, h2, h0, h3⟩ := h
  have Hok := Lib.hid hok
  clear h0 hok
  go_enter Tryd.func26, Tryd.ntmps26
  go_wp2_with fail
  go_loopw [11] (fun i wr => ∃ k : Nat, k ≤ n ∧ i = .int .i64 k ∧ Only [] w wr) (fun i _ => n - (intOf i).toNat)
  case atStart => exact ⟨0, Nat.zero_le _, rfl, Only.refl _ _⟩
  case round =>
    obtain ⟨k, hk, rfl, ho⟩ := hrel
    by_cases hlt : k < n
    · obtain ⟨b, off, rfl, k0, k1⟩ := h3 k hlt
      have c0 := (ho.cell (p := ⟨b, _, none⟩) (cell_lt k0) (by simp)).trans k0
      have c1 := (ho.cell (p := ⟨b, _, none⟩) (cell_lt k1) (by simp)).trans k1
      obtain ⟨g1, g2⟩ := Hok.out k hlt
      have ho2 := Lib.hid (ho.alloc (.cells #[.int .i64 (P k), .bool (C k)] 61))
      obtain ⟨x, hx⟩ : ∃ x, P k = x := ⟨_, rfl⟩
      rw [hx] at c0 g1 g2 ho2
      clear h3 k0 k1 ho hx
      go_wp2
      go_roundw
      case rel => exact ⟨k + 1, by omega, by go_num, ho2.out⟩
      case measure => (simp [intOf]; try omega)
    · obtain rfl : k = n := by omega
      clear h3
      go_wp2
      go_ret
      exact ⟨rfl, ho⟩

theorem groups_ready_ok (v : Value) (n : Nat) (P : Nat → Int) (C : Nat → Bool) (i : Int) (w : World) (h : InGroups w v n P C) (h6 : n ≤ 12) (hok : Tree n P) (h0 : 0 ≤ i) (hi : i < n) :
    Calls Tryd.prog 82 #[v, .int .i64 i] w fun e w' => e = .returned .nilIface ∧ Only [] w w' := by
  have hc := groups_check_ok v n P C w h h6 hok
  obtain ⟨a, cap, rfl, h1, h2, _, _⟩ := h
  clear hok
  go_enter Tryd.func82, Tryd.ntmps82
  go_wp2_with fail
  refine hc.mono ?_
  rintro e w1 ⟨rfl, ho1⟩
  clear hc
  go_wp2
  go_ret
  exact ⟨rfl, ho1⟩

theorem groups_ready_out (v : Value) (n : Nat) (P : Nat → Int) (C : Nat → Bool) (i : Int) (w : World) (h : InGroups w v n P C) (h6 : n ≤ 12) (hok : Tree n P) (hi : i < 0 ∨ (n : Int) ≤ i) :
    Calls Tryd.prog 82 #[v, .int .i64 i] w fun e w' => e = .returned (.iface 115 (.int .i64 1)) ∧ Only [] w w' := by
  have hc := groups_check_ok v n P C w h h6 hok
  obtain ⟨a, cap, rfl, h1, h2, _, _⟩ := h
  have hi2 : i < 0 ∨ (0 ≤ i ∧ (n : Int) ≤ i) := by omega
  clear hok hi
  go_enter Tryd.func82, Tryd.ntmps82
  go_wp2_with fail
  refine hc.mono ?_
  rintro e w1 ⟨rfl, ho1⟩
  clear hc
  rcases hi2 with hi | ⟨hi0, hi⟩
  all_goals
    go_wp2
    go_ret
    exact ⟨rfl, ho1⟩

set_option maxHeartbeats 1000000 in
/-- G: who is gone, told by the equations of the walk upwards. -/
theorem groups_gone (v : Value) (n : Nat) (P : Nat → Int) (C : Nat → Bool) (G : Int → Bool) (i : Int) (w : World) (h : InGroups w v n P C) (hok : Tree n P) (hlo : -1 ≤ i) (hi : i < n)
    (hG0 : G (-1) = false) (hG1 : ∀ k, k < n → G k = (C k || G (P k))) :
    Calls Tryd.prog 83 #[v, .int .i64 i] w fun e w' => e = .returned (.bool (G i)) ∧ w = w' := by
  obtain ⟨a, cap, rfl, h1, h2, h0, h3⟩ := h
  have Hok := Lib.hid hok
  have HG := Lib.hid hG1
  clear h0 hok hG1
  go_enter Tryd.func83, Tryd.ntmps83
  go_wp2_with fail
  go_loopw [1] (fun vi wr => ∃ j : Int, -1 ≤ j ∧ j < n ∧ vi = .int .i64 j ∧ G j = G i ∧ w = wr) (fun vi _ => (intOf vi + 1).toNat)
  case atStart => exact ⟨i, hlo, hi, rfl, rfl, rfl⟩
  case round =>
    obtain ⟨j, hj1, hj2, rfl, hGj, rfl⟩ := hrel
    have HGj := Lib.hid hGj
    clear hGj
    by_cases hneg : j < 0
    · obtain rfl : j = -1 := by omega
      have hr : G i = false := by rw [← HGj.out, hG0]
      clear h3 hlo hi
      go_wp2
      go_ret
      exact ⟨by rw [hr]; rfl, rfl⟩
    · obtain ⟨k, rfl⟩ := Int.eq_ofNat_of_zero_le (show 0 ≤ j by omega)
      obtain ⟨b, off, rfl, k0, k1⟩ := h3 k (by omega)
      obtain ⟨g1, g2⟩ := Hok.out k (by omega)
      have he := Lib.hid (HG.out k (by omega))
      have hkn : k < n := by omega
      clear h3 hneg hlo hi
      cases hC : C k with
      | true =>
        rw [hC] at k1
        have hr : G i = true := by rw [← HGj.out, he.out, hC]; rfl
        clear hC
        go_wp2
        go_ret
        exact ⟨by rw [hr]; rfl, rfl⟩
      | false =>
        rw [hC] at k1
        have hr : Hid (G (P k) = G i) := by show _ = _; rw [← HGj.out, he.out, hC]; rfl
        obtain ⟨x, hx⟩ : ∃ x, P k = x := ⟨_, rfl⟩
        rw [hx] at k0 g1 g2 hr
        clear hC hx he
        go_wp2
        go_roundw
        case rel => exact ⟨x, by omega, by omega, rfl, hr.out, by trivial⟩
        case measure => (simp [intOf]; try omega)

theorem groups_Gone_ok (v : Value) (n : Nat) (P : Nat → Int) (C : Nat → Bool) (G : Int → Bool) (i : Int) (w : World) (h : InGroups w v n P C) (h6 : n ≤ 12) (hok : Tree n P) (h0 : 0 ≤ i) (hi : i < n)
    (hG0 : G (-1) = false) (hG1 : ∀ k, k < n → G k = (C k || G (P k))) :
    Calls Tryd.prog 28 #[v, .int .i64 i] w fun e w' => e = .returned (.tuple #[.bool (G i), .nilIface]) ∧ Only [] w w' := by
  have hr := groups_ready_ok v n P C i w h h6 hok h0 hi
  have hg := Lib.hid (fun w' (ho : Only [] w w') => groups_gone v n P C G i w' (h.same ho) hok (by omega) hi hG0 hG1)
  clear hG1 hok
  go_enter Tryd.func28, Tryd.ntmps28
  go_wp2_with fail
  refine hr.mono ?_
  rintro e w1 ⟨rfl, ho1⟩
  clear hr
  go_wp2_with fail
  refine (hg.out w1 ho1).mono ?_
  rintro e w2 ⟨rfl, rfl⟩
  clear hg
  go_wp2
  go_ret2
  exact ⟨rfl, ho1⟩

theorem groups_Cancel_ok (v : Value) (n : Nat) (P : Nat → Int) (C : Nat → Bool) (i : Nat) (w : World) (h : InGroups w v n P C) (h6 : n ≤ 12) (hok : Tree n P) (hi : i < n) :
    Calls Tryd.prog 29 #[v, .int .i64 i] w fun e w' => ∃ v', e = .returned (.tuple #[v', .nilIface]) ∧ OwnGroups w' w.heap.size v' n P (cancel C i) ∧ Only [] w w' := by
  have hr := groups_ready_ok v n P C i w h h6 hok (by omega) (by omega)
  have hg := Lib.hid (fun w' (ho : Only [] w w') => clone_groups v n P C w' (h.same ho) (by omega))
  clear hok
  go_enter Tryd.func29, Tryd.ntmps29
  go_wp2_with fail
  refine hr.mono ?_
  rintro e w1 ⟨rfl, ho1⟩
  clear hr
  go_wp2_with fail
  refine (hg.out w1 ho1).mono ?_
  rintro e w2 ⟨v2, rfl, hO, ho2⟩
  have hsz := ho1.size
  obtain ⟨a, cap, rfl, hc1, hc2, hgg⟩ := Row.form hO
  obtain ⟨g, rfl, hgb, hgl⟩ := hgg (by omega)
  obtain ⟨c0, c1, f1⟩ := OwnGroups.cells hO i hi
  have hres := Lib.hid (OwnGroups.set hO i hi)
  have ho3 := Lib.hid (((ho1.trans ho2 (by simp))).setCell (p := ⟨g, i * 2 + 1, none⟩) (fun hlt => by simp at hlt; omega) (.bool true))
  clear hg hO ho1 ho2
  go_wp2
  go_ret2
  exact ⟨_, rfl, OwnGroups.mono hres.out hsz, ho3.out⟩

theorem groups_Cancel_out (v : Value) (n : Nat) (P : Nat → Int) (C : Nat → Bool) (i : Int) (w : World) (h : InGroups w v n P C) (h6 : n ≤ 12) (hok : Tree n P) (hi : i < 0 ∨ (n : Int) ≤ i) :
    Calls Tryd.prog 29 #[v, .int .i64 i] w fun e w' => e = .returned (.tuple #[.slice none 0 0, .iface 115 (.int .i64 1)]) ∧ Only [] w w' := by
  have hr := groups_ready_out v n P C i w h h6 hok hi
  clear hok hi h
  go_enter Tryd.func29, Tryd.ntmps29
  go_wp2_with fail
  refine hr.mono ?_
  rintro e w1 ⟨rfl, ho1⟩
  clear hr
  go_wp2
  go_ret2
  exact ⟨rfl, ho1⟩

end Go.Proofs.YtadjcooemeaaeaaDoor
