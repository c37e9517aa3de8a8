/-
  Contracts of package trace: fields, Print.
  Contract of strconv.Atoi at digits.
-/
import Derived.Test.YtoofalchkedciaaDoorP23TraceBack
import Derived.Test.YtoofalchkedciaaDoorP16TraceBack
import Derived.Test.YtoofalchkedciaaDoorP9TraceBack
import Derived.Test.YtoofalchkedciaaDoorP2TraceBack
import Derived.Test.YtoofalchkedciaaDoorP7TraceBack
import Derived.Lib.AtoiAll
namespace Go.Proofs.YtoofalchkedciaaDoor
open Go.RowKit Go.Deep

theorem obj_cell {w : World} {b : Nat} {cs : Array Value} {t : TypeId} (h : w.heap[b]? = some (.cells cs t (0, 0))) (i : Nat) (v : Value) (hv : cs[i]? = some v) : w.cell? ⟨b, i, none⟩ = some v := by
  rw [Lib.cell_of_heap h]; exact hv

set_option maxRecDepth 100000 in
theorem trace_fields (D : Nat) (what : Int) (w : World) (c : w.cell? ⟨D, 0, none⟩ = some (.int .i64 what)) :
    Calls Tryd.prog 32 #[.pointer (some ⟨D, 0, none⟩)] w fun e w' => ∃ F k, e = .returned (.slice (some ⟨F, 0, none⟩) k k) ∧ k = (ddPlaces what).length ∧
      w'.heap[F]? = some (.cells ((ddPlaces what).map fun j => .pointer (some ⟨D, j, none⟩)).toArray 82 (0, 0)) ∧ w.heap.size ≤ F ∧ Only [] w w' := by
  have ha := trace_alone what
  by_cases h1 : what = 5 ∨ what = 6
  · have e1 : aloneB what = true := by simp [aloneB, h1]
    rw [e1] at ha
    have e2 : ddPlaces what = [1] := by unfold ddPlaces; rw [if_pos h1]
    rw [e2]
    clear e1 e2 h1
    go_enter Tryd.func32, Tryd.ntmps32
    go_wp2_with fail
    refine (ha _).mono ?_
    rintro e w1 ⟨rfl, rfl⟩
    go_wp2
    go_ret
    exact ⟨w.heap.size, 1, rfl, rfl, heap_alloc_new _ _, Nat.le_refl _, (Only.refl [] w).alloc _⟩
  · have e1 : aloneB what = false := by simp [aloneB]; omega
    rw [e1] at ha
    by_cases h2 : what = 2
    · subst h2
      have e2 : ddPlaces 2 = [1, 2, 3] := rfl
      rw [e2]
      clear e1 e2 h1
      go_enter Tryd.func32, Tryd.ntmps32
      go_wp2_with fail
      refine (ha _).mono ?_
      rintro e w1 ⟨rfl, rfl⟩
      go_wp2_with fail
      go_region
      go_wp2
      go_ret
      exact ⟨w.heap.size, 3, rfl, rfl, heap_alloc_new _ _, Nat.le_refl _, ((Only.refl [] w).alloc _).drew⟩
    · have e2 : ddPlaces what = [1, 2] := by unfold ddPlaces; rw [if_neg h1, if_neg h2]
      rw [e2]
      have h3 : (what == 2) = false := by simpa using h2
      clear e1 e2 h1 h2
      go_enter Tryd.func32, Tryd.ntmps32
      go_wp2_with fail
      refine (ha _).mono ?_
      rintro e w1 ⟨rfl, rfl⟩
      go_wp2_with fail
      go_region
      go_wp2
      go_ret
      exact ⟨w.heap.size, 2, rfl, rfl, heap_alloc_new _ _, Nat.le_refl _, ((Only.refl [] w).alloc _).drew⟩

end Go.Proofs.YtoofalchkedciaaDoor

namespace Go.Proofs.YtoofalchkedciaaDoor
open Go.RowKit

theorem dig_grow : ∀ (l : List UInt8) (n : Nat), n ≤ l.foldl (fun n c => n * 10 + (c.toNat - 48)) n := by
  intro l
  induction l with
  | nil => intro n; exact Nat.le_refl _
  | cons a l ih =>
    intro n
    rw [List.foldl_cons]
    exact Nat.le_trans (by omega) (ih _)

theorem parse_digits : ∀ (l : List UInt8) (acc : Nat), l.all isDig = true →
    (Lib.parseUint10 acc l = .ok (l.foldl (fun n c => n * 10 + (c.toNat - 48)) acc) ∧ (acc < 18446744073709551616 → l.foldl (fun n c => n * 10 + (c.toNat - 48)) acc < 18446744073709551616)) ∨
    (Lib.parseUint10 acc l = .range ∧ 9223372036854775808 ≤ l.foldl (fun n c => n * 10 + (c.toNat - 48)) acc) := by
  intro l
  induction l with
  | nil => intro acc _; exact .inl ⟨rfl, fun h => h⟩
  | cons c r ih =>
    intro acc h
    rw [List.all_cons, Bool.and_eq_true] at h
    have hc : 48 ≤ c.toNat ∧ c.toNat ≤ 57 := by
      have := h.1
      simpa [isDig] using this
    rw [List.foldl_cons]
    have hg := dig_grow r (acc * 10 + (c.toNat - 48))
    simp only [Lib.parseUint10]
    rw [if_pos hc]
    by_cases h1 : 1844674407370955162 ≤ acc
    · rw [if_pos h1]
      exact .inr ⟨rfl, by omega⟩
    · rw [if_neg h1]
      by_cases h2 : 18446744073709551616 ≤ acc * 10 + (c.toNat - 48)
      · rw [if_pos h2]
        exact .inr ⟨rfl, by omega⟩
      · rw [if_neg h2]
        rcases ih (acc * 10 + (c.toNat - 48)) h.2 with ⟨a, b⟩ | hb
        · exact .inl ⟨a, fun _ => b (by omega)⟩
        · exact .inr hb

theorem atoi_digits (d : List UInt8) (h : d.all isDig = true) (h0 : d ≠ []) :
    (Lib.atoiAll d = .ok (digV d : Int)) ∨ (Lib.atoiAll d = .range ∧ 9223372036854775808 ≤ digV d) := by
  cases d with
  | nil => exact absurd rfl h0
  | cons c r =>
    have hc : 48 ≤ c.toNat ∧ c.toNat ≤ 57 := by
      rw [List.all_cons, Bool.and_eq_true] at h
      simpa [isDig] using h.1
    unfold Lib.atoiAll
    have n1 : ¬ c.toNat = 43 := by omega
    have n2 : ¬ c.toNat = 45 := by omega
    simp only [n1, n2, or_self, if_false, false_and]
    unfold Lib.parseMag
    rw [if_neg (by simp)]
    rcases parse_digits (c :: r) 0 h with ⟨a, b⟩ | ⟨a, b⟩
    · rw [a]
      unfold digV
      by_cases hz : 9223372036854775808 ≤ (c :: r).foldl (fun n c => n * 10 + (c.toNat - 48)) 0
      · right
        simp only [hz]
        simp
      · left
        simp only [hz]
        simp
    · rw [a]
      right
      exact ⟨rfl, b⟩

/-- What Atoi says of digits. -/
def AtoiD (d : List UInt8) (w : World) (e : Ending) (w' : World) : Prop :=
  ∃ (n : Int) (v : Value), e = .returned (.tuple #[.int .i64 n, v]) ∧ ((v = .nilIface ∧ n = (digV d : Int) ∧ d ≠ []) ∨ (∃ N, v = .iface 127 (.pointer (some ⟨N, 0, none⟩)) ∧ (d = [] ∨ 21 ≤ digV d))) ∧ (-9223372036854775808 ≤ n ∧ n ≤ 9223372036854775807) ∧ Only [] w w'

theorem atoi_at_digits (s : ByteArray) (d : List UInt8) (hd : s.data.toList = d) (h : d.all isDig = true) (hs : s.size ≤ 1000) (w : World) (base : Nat) (hv : ErrsAt w base) :
    Calls Tryd.prog 57 #[.string s] w (AtoiD d w) := by
  subst hd
  obtain ⟨hsyn, hrange, _⟩ := hv
  by_cases h0 : s.data.toList = []
  · obtain ⟨tp, p, hv⟩ := hsyn
    refine (Tryd.strconv_Atoi_empty_var s (by omega) h0 tp p w hv).mono ?_
    rintro e w' ⟨N, rfl, _, _, hb⟩
    exact ⟨_, _, rfl, .inr ⟨N, rfl, .inl h0⟩, by omega, Only.ofBelow hb⟩
  · rcases atoi_digits _ h h0 with hk | ⟨hk, hbig⟩
    · have hbd := Lib.atoiAll_bounds hk
      refine (Tryd.strconv_Atoi_ok s (by omega) _ hk w).mono ?_
      rintro e w' ⟨rfl, hw⟩
      refine ⟨_, _, rfl, .inl ⟨rfl, rfl, h0⟩, hbd, ?_⟩
      rcases hw with rfl | ⟨t, rfl⟩
      · exact Only.refl _ _
      · exact Only.ofBelow (Lib.below_freeze ((Below.drew (Below.refl _ w)).alloc (Nat.le_refl _) _) (p := ⟨w.heap.size, _, none⟩) (Nat.le_refl _) _)
    · obtain ⟨tp, p, hv⟩ := hrange
      refine (Tryd.strconv_Atoi_range_var s (by omega) hk tp p w hv).mono ?_
      rintro e w' ⟨N, rfl, _, _, hb⟩
      refine ⟨_, _, rfl, .inr ⟨N, rfl, .inr (by omega)⟩, ?_, Only.ofBelow hb⟩
      unfold Lib.atoiSat
      split <;> omega

end Go.Proofs.YtoofalchkedciaaDoor
