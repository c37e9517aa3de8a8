/-
  Contract of strconv.Atoi at digits.
  What a text's reading and printing ask of the library's variables, as one fact; what Atoi does with any text.
-/
import Derived.Test.YtoofalchkedciaaGreatDoorP26PlanTells
import Derived.Test.YtoofalchkedciaaGreatDoorP3PlanTells
import Derived.Test.YtoofalchkedciaaGreatDoorP31PlanTells
import Derived.Lib.AtoiAll
import Derived.Shelf.Vars
import Derived.Lib.ItoaMem
import Derived.Sort.Grow
namespace Go.Proofs.YtoofalchkedciaaGreatDoor
open Go.RowKit

theorem dig_grow : ∀ (l : List UInt8) (n : Nat), n ≤ l.foldl (fun n c => n * 10 + (c.toNat - 48)) n := by
  intro l
  induction l with
  | nil => intro n; exact Nat.le_refl _
  | cons a l ih =>
    intro n
    rw [List.foldl_cons]
    exact Nat.le_trans (by omega) (ih _)

theorem parse_digits : ∀ (l : List UInt8) (acc : Nat), l.all isDig = true →
    (Lib.parseUint10 acc l = .ok (l.foldl (fun n c => n * 10 + (c.toNat - 48)) acc) ∧ (acc < 18446744073709551616 → l.foldl (fun n c => n * 10 + (c.toNat - 48)) acc < 18446744073709551616)) ∨
    (Lib.parseUint10 acc l = .range ∧ 9223372036854775808 ≤ l.foldl (fun n c => n * 10 + (c.toNat - 48)) acc) := by
  intro l
  induction l with
  | nil => intro acc _; exact .inl ⟨rfl, fun h => h⟩
  | cons c r ih =>
    intro acc h
    rw [List.all_cons, Bool.and_eq_true] at h
    have hc : 48 ≤ c.toNat ∧ c.toNat ≤ 57 := by
      have := h.1
      simpa [isDig] using this
    rw [List.foldl_cons]
    have hg := dig_grow r (acc * 10 + (c.toNat - 48))
    simp only [Lib.parseUint10]
    rw [if_pos hc]
    by_cases h1 : 1844674407370955162 ≤ acc
    · rw [if_pos h1]
      exact .inr ⟨rfl, by omega⟩
    · rw [if_neg h1]
      by_cases h2 : 18446744073709551616 ≤ acc * 10 + (c.toNat - 48)
      · rw [if_pos h2]
        exact .inr ⟨rfl, by omega⟩
      · rw [if_neg h2]
        rcases ih (acc * 10 + (c.toNat - 48)) h.2 with ⟨a, b⟩ | hb
        · exact .inl ⟨a, fun _ => b (by omega)⟩
        · exact .inr hb

theorem atoi_digits (d : List UInt8) (h : d.all isDig = true) (h0 : d ≠ []) :
    (Lib.atoiAll d = .ok (digV d : Int)) ∨ (Lib.atoiAll d = .range ∧ 9223372036854775808 ≤ digV d) := by
  cases d with
  | nil => exact absurd rfl h0
  | cons c r =>
    have hc : 48 ≤ c.toNat ∧ c.toNat ≤ 57 := by
      rw [List.all_cons, Bool.and_eq_true] at h
      simpa [isDig] using h.1
    unfold Lib.atoiAll
    have n1 : ¬ c.toNat = 43 := by omega
    have n2 : ¬ c.toNat = 45 := by omega
    simp only [n1, n2, or_self, if_false, false_and]
    unfold Lib.parseMag
    rw [if_neg (by simp)]
    rcases parse_digits (c :: r) 0 h with ⟨a, b⟩ | ⟨a, b⟩
    · rw [a]
      unfold digV
      by_cases hz : 9223372036854775808 ≤ (c :: r).foldl (fun n c => n * 10 + (c.toNat - 48)) 0
      · right
        simp only [hz]
        simp
      · left
        simp only [hz]
        simp
    · rw [a]
      right
      exact ⟨rfl, b⟩

/-- What Atoi says of digits. -/
def AtoiD (d : List UInt8) (w : World) (e : Ending) (w' : World) : Prop :=
  ∃ (n : Int) (v : Value), e = .returned (.tuple #[.int .i64 n, v]) ∧ ((v = .nilIface ∧ n = (digV d : Int) ∧ d ≠ []) ∨ (∃ N, v = .iface 315 (.pointer (some ⟨N, 0, none⟩)) ∧ (d = [] ∨ 21 ≤ digV d))) ∧ (-9223372036854775808 ≤ n ∧ n ≤ 9223372036854775807) ∧ Only [] w w'

theorem atoi_at_digits (s : ByteArray) (d : List UInt8) (hd : s.data.toList = d) (h : d.all isDig = true) (hs : s.size ≤ 1000) (w : World) (base : Nat) (hv : ErrsAt w base) :
    Calls Tryz.prog 159 #[.string s] w (AtoiD d w) := by
  subst hd
  obtain ⟨hsyn, hrange, _⟩ := hv
  by_cases h0 : s.data.toList = []
  · obtain ⟨tp, p, hv⟩ := hsyn
    refine (Tryz.strconv_Atoi_empty_var s (by omega) h0 tp p w hv).mono ?_
    rintro e w' ⟨N, rfl, _, _, hb⟩
    exact ⟨_, _, rfl, .inr ⟨N, rfl, .inl h0⟩, by omega, Only.ofBelow hb⟩
  · rcases atoi_digits _ h h0 with hk | ⟨hk, hbig⟩
    · have hbd := Lib.atoiAll_bounds hk
      refine (Tryz.strconv_Atoi_ok s (by omega) _ hk w).mono ?_
      rintro e w' ⟨rfl, hw⟩
      refine ⟨_, _, rfl, .inl ⟨rfl, rfl, h0⟩, hbd, ?_⟩
      rcases hw with rfl | ⟨t, rfl⟩
      · exact Only.refl _ _
      · exact Only.ofBelow (Lib.below_freeze ((Below.drew (Below.refl _ w)).alloc (Nat.le_refl _) _) (p := ⟨w.heap.size, _, none⟩) (Nat.le_refl _) _)
    · obtain ⟨tp, p, hv⟩ := hrange
      refine (Tryz.strconv_Atoi_range_var s (by omega) hk tp p w hv).mono ?_
      rintro e w' ⟨N, rfl, _, _, hb⟩
      refine ⟨_, _, rfl, .inr ⟨N, rfl, .inr (by omega)⟩, ?_, Only.ofBelow hb⟩
      unfold Lib.atoiSat
      split <;> omega

end Go.Proofs.YtoofalchkedciaaGreatDoor

namespace Go.Proofs.YtoofalchkedciaaGreatDoor
open Go.RowKit Go.Deep

/-- The library's variables hold what they held. -/
def Std (w : World) : Prop := VarErr "strconv.ErrSyntax" w ∧ VarErr "strconv.ErrRange" w ∧ Lib.TabIs Tryz.prog w "internal/strconv.uint64pow10" .u64 Lib.pow10Tab ∧ ∃ m, w.cell? ⟨4, 0, none⟩ = some (.int .i64 m)

theorem Std.only {w w' : World} (h : Std w) (ho : Only [] w w') : Std w' := by
  obtain ⟨h1, h2, h3, m, h4⟩ := h
  exact ⟨h1.only ho, h2.only ho, var_only h3 ho, m, (ho.cell (cell_lt h4) (by simp)).trans h4⟩

theorem max_len (W : World) (h : W.ShapedOpen Tryz.prog) : ∃ m, W.cell? ⟨4, 0, none⟩ = some (.int .i64 m) :=
  cell_of_shapedOpen_int (t := 3) (zero := #[.int .i64 0]) h (of_decide_eq_true (by kernel_rfl)) (by kernel_rfl) rfl (by kernel_rfl) (by kernel_rfl) Tryz.underlying3

theorem grow_only (w : World) (os : Array Obj) : Only [] w (Sort.grow w os) :=
  ⟨rfl, rfl, rfl, by rw [Sort.size_grow]; omega, fun k hk _ => Sort.heap_grow_old w os hk⟩

/-- What Atoi does with any text. -/
theorem atoi_any (s : ByteArray) (hs : s.size ≤ 2000000) (w : World) (hstd : Std w) :
    Calls Tryz.prog 159 #[.string s] w fun e w' => ∃ (n : Int) (v : Value), e = .returned (.tuple #[.int .i64 n, v]) ∧ (-9223372036854775808 ≤ n ∧ n ≤ 9223372036854775807) ∧ Only [] w w' ∧
      ((v = .nilIface ∧ Lib.atoiAll s.data.toList = .ok n) ∨ ((∃ t N, v = .iface t (.pointer (some ⟨N, 0, none⟩))) ∧ ∀ v, Lib.atoiAll s.data.toList ≠ .ok v)) := by
  obtain ⟨hsyn, hran, _⟩ := hstd
  cases hk : Lib.atoiAll s.data.toList with
  | ok v =>
    have hbd := Lib.atoiAll_bounds hk
    refine (Tryz.strconv_Atoi_ok s (by omega) _ hk w).mono ?_
    rintro e w' ⟨rfl, hw⟩
    refine ⟨_, _, rfl, hbd, ?_, .inl ⟨rfl, rfl⟩⟩
    rcases hw with rfl | ⟨t, rfl⟩
    · exact Only.refl _ _
    · exact Only.ofBelow (Lib.below_freeze ((Below.drew (Below.refl _ w)).alloc (Nat.le_refl _) _) (p := ⟨w.heap.size, _, none⟩) (Nat.le_refl _) _)
  | range =>
    obtain ⟨tp, p, hv⟩ := hran
    refine (Tryz.strconv_Atoi_range_var s (by omega) hk tp p w hv).mono ?_
    rintro e w' ⟨N, rfl, _, _, hb⟩
    refine ⟨_, _, rfl, ?_, Only.ofBelow hb, .inr ⟨⟨_, N, rfl⟩, fun v h => by cases h⟩⟩
    unfold Lib.atoiSat
    split <;> omega
  | _ =>
    obtain ⟨tp, p, hv⟩ := hsyn
    refine (Tryz.strconv_Atoi_bad_var s (by omega) (fun v h => by rw [hk] at h; cases h) (fun h => by rw [hk] at h; cases h) tp p w hv).mono ?_
    rintro e w' ⟨N, rfl, _, _, hb⟩
    exact ⟨_, _, rfl, by omega, Only.ofBelow hb, .inr ⟨⟨_, N, rfl⟩, fun v h => by cases h⟩⟩

end Go.Proofs.YtoofalchkedciaaGreatDoor
