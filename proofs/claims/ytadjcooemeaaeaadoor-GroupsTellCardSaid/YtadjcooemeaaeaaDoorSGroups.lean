/-
  Contracts of yardref2.Groups and Gone, groups.Gone where it refuses, yardsame.Groups and Bools.
-/
import Derived.Test.YtadjcooemeaaeaaDoorGroups2
namespace Go.Proofs.YtadjcooemeaaeaaDoor
open Go.RowKit Go.Deep

set_option maxRecDepth 100000 in
set_option maxHeartbeats 1000000 in
theorem ref_Groups (v : Value) (n : Nat) (P : Nat → Int) (C : Nat → Bool) (w : World) (h : InGroups w v n P C) :
    Calls Tryd.prog 25 #[v] w fun e w' => e = .returned (.int .i64 (grpFault n P)) ∧ w' = w := by
  have hn := inGroups_len h
  obtain ⟨a, cap, rfl, h1, h2, h0, h3⟩ := h
  obtain ⟨F, hF⟩ : ∃ F, grpFault n P = F := ⟨_, rfl⟩
  have HF := Lib.hid hF
  rw [hF]
  unfold grpFault at HF
  clear h0 h2 hF
  by_cases h12 : 12 < n
  · rw [if_pos h12] at HF
    clear h3
    go_enter Tryd.func25, Tryd.ntmps25
    go_wp2
    go_ret
    exact ⟨by rw [← HF.out]; rfl, rfl⟩
  · rw [if_neg h12] at HF
    have hn12 : n ≤ 12 := by omega
    clear h12
    go_enter Tryd.func25, Tryd.ntmps25
    go_wp2_with fail
    go_loopw [3] (fun i wr => ∃ k : Nat, k ≤ n ∧ i = .int .i64 k ∧ (∀ j, j < k → -1 ≤ P j ∧ P j < j) ∧ w = wr) (fun i _ => n - (intOf i).toNat)
    case atStart => exact ⟨0, Nat.zero_le _, rfl, fun j hj => by omega, rfl⟩
    case round =>
      obtain ⟨k, hk, rfl, hgood, rfl⟩ := hrel
      have HGOOD := Lib.hid hgood
      clear hgood
      by_cases hlt : k < n
      · obtain ⟨b, off, rfl, k0, k1⟩ := h3 k hlt
        obtain ⟨x, hx⟩ : ∃ x, P k = x := ⟨_, rfl⟩
        have HX := Lib.hid hx
        rw [hx] at k0
        clear h3 hx
        by_cases hg : -1 ≤ x ∧ x < k
        · obtain ⟨g1, g2⟩ := hg
          go_wp2
          go_roundw
          case rel =>
            refine ⟨k + 1, by omega, by go_num, fun j hj => ?_, trivial⟩
            by_cases e : j = k
            · subst e; rw [HX.out]; exact ⟨g1, g2⟩
            · exact HGOOD.out j (by omega)
          case measure => (simp [intOf]; try omega)
        · have hg2 : x < -1 ∨ (-1 ≤ x ∧ (k : Int) ≤ x) := by omega
          have ht : ¬ Tree n P := fun ht => hg (by have := ht k hlt; rw [HX.out] at this; exact this)
          rw [if_neg ht] at HF
          clear hg ht
          rcases hg2 with hg | ⟨hg, hg2⟩
          all_goals
            go_wp2
            go_ret
            exact ⟨by rw [← HF.out]; rfl, rfl⟩
      · obtain rfl : n = k := by omega
        have ht : Tree n P := HGOOD.out
        rw [if_pos ht] at HF
        clear ht
        go_wp2
        go_ret
        exact ⟨by rw [← HF.out]; rfl, rfl⟩

set_option maxHeartbeats 1000000 in
theorem ref_Gone (v : Value) (n : Nat) (P : Nat → Int) (C : Nat → Bool) (i : Int) (w : World) (h : InGroups w v n P C) (hok : Tree n P) (hlo : -1 ≤ i) (hi : i < n) :
    Calls Tryd.prog 27 #[v, .int .i64 i] w fun e w' => e = .returned (.bool (goneF P C i)) ∧ w' = w := by
  obtain ⟨a, cap, rfl, h1, h2, h0, h3⟩ := h
  have Hok := Lib.hid hok
  have HG := Lib.hid (fun k (hk : k < n) => goneF_step (C := C) hok k hk)
  clear h0 hok
  go_enter Tryd.func27, Tryd.ntmps27
  go_wp2_with fail
  go_loopw [1] (fun vi wr => ∃ j : Int, -1 ≤ j ∧ j < n ∧ vi = .int .i64 j ∧ goneF P C j = goneF P C i ∧ w = wr) (fun vi _ => (intOf vi + 1).toNat)
  case atStart => exact ⟨i, hlo, hi, rfl, rfl, rfl⟩
  case round =>
    obtain ⟨j, hj1, hj2, rfl, hGj, rfl⟩ := hrel
    have HGj := Lib.hid hGj
    clear hGj
    by_cases hneg : j < 0
    · obtain rfl : j = -1 := by omega
      have hr : goneF P C i = false := by rw [← HGj.out, goneF_neg]
      clear h3 hlo hi
      go_wp2
      go_ret
      exact ⟨by rw [hr]; rfl, rfl⟩
    · obtain ⟨k, rfl⟩ := Int.eq_ofNat_of_zero_le (show 0 ≤ j by omega)
      obtain ⟨b, off, rfl, k0, k1⟩ := h3 k (by omega)
      obtain ⟨g1, g2⟩ := Hok.out k (by omega)
      have he := Lib.hid (HG.out k (by omega))
      have hkn : k < n := by omega
      clear h3 hneg hlo hi
      cases hC : C k with
      | true =>
        rw [hC] at k1
        have hr : goneF P C i = true := by rw [← HGj.out, he.out, hC]; rfl
        clear hC
        go_wp2
        go_ret
        exact ⟨by rw [hr]; rfl, rfl⟩
      | false =>
        rw [hC] at k1
        have hr : Hid (goneF P C (P k) = goneF P C i) := by show _ = _; rw [← HGj.out, he.out, hC]; rfl
        obtain ⟨x, hx⟩ : ∃ x, P k = x := ⟨_, rfl⟩
        rw [hx] at k0 g1 g2 hr
        clear hC hx he
        go_wp2
        go_roundw
        case rel => exact ⟨x, by omega, by omega, rfl, hr.out, by trivial⟩
        case measure => (simp [intOf]; try omega)

set_option maxRecDepth 100000 in
theorem groups_Gone_no (v : Value) (n : Nat) (P : Nat → Int) (C : Nat → Bool) (i : Int) (w : World) (h : InGroups w v n P C) (he : grErr n P i ≠ 0) :
    Calls Tryd.prog 28 #[v, .int .i64 i] w fun e w' => e = .returned (.tuple #[.bool false, .iface 115 (.int .i64 (grErr n P i))]) ∧ Only [] w w' := by
  have hr := groups_ready_no v n P C i w h he
  generalize grErr n P i = f at *
  clear h he
  go_enter Tryd.func28, Tryd.ntmps28
  go_wp2_with fail
  refine hr.mono ?_
  rintro e w1 ⟨rfl, ho1⟩
  clear hr
  go_wp2
  go_ret2
  exact ⟨rfl, ho1⟩

set_option maxRecDepth 100000 in
set_option maxHeartbeats 1000000 in
theorem same_groups (u v : Value) (n : Nat) (P : Nat → Int) (C : Nat → Bool) (w : World) (hu : InGroups w u n P C) (hv : InGroups w v n P C) :
    Calls Tryd.prog 30 #[u, v] w fun e w' => e = .returned (.bool true) ∧ ∃ n, w' = w.drewN n := by
  have hn := inGroups_len hu
  obtain ⟨a, ca, rfl, _, _, _, ha⟩ := hu
  obtain ⟨b, cb, rfl, _, _, _, hb⟩ := hv
  go_enter Tryd.func30, Tryd.ntmps30
  go_wp2_with fail
  go_loopw [5] (fun vi wr => ∃ i : Nat, i ≤ n ∧ vi = .int .i64 i ∧ ∃ m, w.drewN m = wr) (fun vi _ => n - (intOf vi).toNat)
  case atStart => exact ⟨0, Nat.zero_le _, rfl, 0, rfl⟩
  case round =>
    obtain ⟨i, hi, rfl, m, rfl⟩ := hrel
    by_cases hin : i < n
    · obtain ⟨ba, oa, rfl, k0, k0'⟩ := ha i hin
      obtain ⟨bb, ob, rfl, k1, k1'⟩ := hb i hin
      obtain ⟨z, hz⟩ : ∃ z, P i = z := ⟨_, rfl⟩
      obtain ⟨c, hc⟩ : ∃ c, C i = c := ⟨_, rfl⟩
      rw [hz] at k0 k1
      rw [hc] at k0' k1'
      clear ha hb hz hc
      go_wp2_with fail
      go_quiet (fail)
      go_wp2
      go_roundw
      case rel => exact ⟨i + 1, by omega, by go_num, _, rfl⟩
      case measure => (simp [intOf]; try omega)
    · obtain rfl : i = n := by omega
      clear ha hb
      go_wp2
      go_ret
      exact ⟨rfl, _, rfl⟩

/-- n bools are read from a slice's value. -/
def RowB (w : World) (v : Value) (n : Nat) (f : Nat → Bool) : Prop :=
  ∃ a cap, v = .slice a n cap ∧ ∀ i, i < n → ∃ b off, a = some ⟨b, off, none⟩ ∧ w.cell? ⟨b, off + i, none⟩ = some (.bool (f i))
theorem RowB.same {w w' : World} {v : Value} {n : Nat} {f : Nat → Bool} (h : RowB w v n f) (ho : Only [] w w') : RowB w' v n f := by
  obtain ⟨a, cap, rfl, hc⟩ := h
  refine ⟨a, cap, rfl, fun i hi => ?_⟩
  obtain ⟨b, off, rfl, k⟩ := hc i hi
  exact ⟨b, off, rfl, (ho.cell (p := ⟨b, off + i, none⟩) (cell_lt k) (by simp)).trans k⟩
theorem RowB.congr {w : World} {v : Value} {n : Nat} {f g : Nat → Bool} (h : RowB w v n f) (e : ∀ i, i < n → f i = g i) : RowB w v n g := by
  obtain ⟨a, cap, rfl, hc⟩ := h
  refine ⟨a, cap, rfl, fun i hi => ?_⟩
  rw [← e i hi]; exact hc i hi
theorem Bools.rowB {w : World} {A n : Nat} {f : Nat → Bool} (h : Bools w A n f) : RowB w (.slice (some ⟨A, 0, none⟩) n n) n f :=
  ⟨_, _, rfl, fun i hi => ⟨A, 0, rfl, by rw [Nat.zero_add]; exact (h i hi).1⟩⟩
theorem RowB.nil (w : World) (f : Nat → Bool) : RowB w (.slice none 0 0) 0 f := ⟨none, 0, rfl, fun i hi => by omega⟩

set_option maxRecDepth 100000 in
set_option maxHeartbeats 1000000 in
theorem same_bools (u v : Value) (n : Nat) (f : Nat → Bool) (w : World) (hu : RowB w u n f) (hv : RowB w v n f) (hn : n ≤ 1000000) :
    Calls Tryd.prog 34 #[u, v] w fun e w' => e = .returned (.bool true) ∧ ∃ n, w' = w.drewN n := by
  obtain ⟨a, ca, rfl, ha⟩ := hu
  obtain ⟨b, cb, rfl, hb⟩ := hv
  go_enter Tryd.func34, Tryd.ntmps34
  go_wp2_with fail
  go_loopw [5] (fun vi wr => ∃ i : Nat, i ≤ n ∧ vi = .int .i64 i ∧ ∃ m, w.drewN m = wr) (fun vi _ => n - (intOf vi).toNat)
  case atStart => exact ⟨0, Nat.zero_le _, rfl, 0, rfl⟩
  case round =>
    obtain ⟨i, hi, rfl, m, rfl⟩ := hrel
    by_cases hin : i < n
    · obtain ⟨ba, oa, rfl, k0⟩ := ha i hin
      obtain ⟨bb, ob, rfl, k1⟩ := hb i hin
      obtain ⟨c, hc⟩ : ∃ c, f i = c := ⟨_, rfl⟩
      rw [hc] at k0 k1
      clear ha hb hc
      go_wp2_with fail
      go_quiet (fail)
      go_wp2
      go_roundw
      case rel => exact ⟨i + 1, by omega, by go_num, _, rfl⟩
      case measure => (simp [intOf]; try omega)
    · obtain rfl : i = n := by omega
      clear ha hb
      go_wp2
      go_ret
      exact ⟨rfl, _, rfl⟩

theorem sliceOf_bools : SliceOf 68 4 1 1 :=
  sliceOf_parts (z := .bool false) Tryd.underlying68 (by kernel_rfl) rfl (by decide) (by decide)

/-- bools of the call's own. -/
def boolL (f : Nat → Bool) (k : Nat) : List Value := (List.range k).map fun i => .bool (f i)
def OwnB (w : World) (base : Nat) (v : Value) (k : Nat) (f : Nat → Bool) : Prop := w.ownsRow base 4 1 v k (boolL f k)
theorem OwnB.rowB {w : World} {base : Nat} {v : Value} {k : Nat} {f : Nat → Bool} (h : OwnB w base v k f) : RowB w v k f := by
  obtain ⟨a, cap, rfl, _, _, hg⟩ := Row.form h
  refine ⟨a, cap, rfl, fun i hi => ?_⟩
  obtain ⟨g, rfl, _⟩ := hg (by omega)
  refine ⟨g, 0, rfl, ?_⟩
  rw [Nat.zero_add, World.ownsRow.cellAt h i (by omega)]
  simp [boolL, hi]
theorem boolL_push (f : Nat → Bool) (k : Nat) : boolL f k ++ [.bool (f k)] = boolL f (k + 1) := by simp [boolL, List.range_succ]

end Go.Proofs.YtadjcooemeaaeaaDoor
