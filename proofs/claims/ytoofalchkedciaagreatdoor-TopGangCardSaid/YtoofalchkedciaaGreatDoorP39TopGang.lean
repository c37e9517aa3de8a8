/-
  What the listed table of trace's words gives a walk.
  Contract of slices.Index over trace's words; a line's end.
  Contracts of package trace: fields, Print.
  Contract of strconv.Atoi at digits.
  What a text's reading and printing ask of the library's variables, as one fact; what Atoi does with any text.
  Contract of plan.Number: a number of at most so many digits, without a zero ahead.
  strings.Split and strings.Cut at one byte, in the words of cutL.
-/
import Derived.Test.YtoofalchkedciaaGreatDoorP37TopGang
import Derived.Test.YtoofalchkedciaaGreatDoorP1TopGang
import Derived.OpenShut
import Derived.Test.YtoofalchkedciaaGreatDoorP38TopGang
import Derived.Lib.Strings
import Derived.Test.YtoofalchkedciaaGreatDoorP18TopGang
import Derived.Test.YtoofalchkedciaaGreatDoorP36TopGang
import Derived.Lib.AtoiAll
import Derived.Shelf.Vars
import Derived.Lib.ItoaMem
import Derived.Sort.Grow
import Derived.Lib.Split
import Derived.Lib.SplitLaws
namespace Go.Proofs.YtoofalchkedciaaGreatDoor
open Go.ChangeShapes Go.WideShapes Go.RowKit Go.Deep

/-- The table of words. -/
def WordsIn (w : World) : Prop := ∀ i, i < 7 → ∃ s : ByteArray, w.cell? ⟨0, i, none⟩ = some (.string s) ∧ s.data.toList = wordB i

set_option maxRecDepth 100000 in
theorem words_of {r : List (String × DataW Unit)} {W : World} (h : laidMet Tryz.prog (("yardgang/trace.words", Rows.laid_yardgang_trace_words) :: r) W) : WordsIn W := by
  obtain ⟨ps, ⟨g0, t0, cs0, f0, p0, q0, hg0, ht0, hv0, hd0, _, e0⟩, _, hrows⟩ := h
  have hg : Tryz.prog.globalNamed "yardgang/trace.words" = some 0 := by kernel_rfl
  have ht : (Tryz.prog.globals[0]?).map (·.type) = some 124 := by kernel_rfl
  obtain rfl := Option.some.inj (hg.symm.trans hg0)
  obtain rfl := Option.some.inj (ht.symm.trans ht0)
  obtain ⟨xs, m, _, hx, hl, hn, hi⟩ := DataW.trod_array Tryz.underlying124 hd0
  have hc1 : Tryz.prog.cellsOf 9 = 1 := by kernel_rfl
  simp only [hc1, Nat.mul_one] at hi
  have hx1 := (congrArg Prod.fst hx)
  simp only [Rows.laid_yardgang_trace_words, DataW.agg.injEq] at hx1
  intro i hi7
  have h1 := hi i hi7
  obtain ⟨x, hxi⟩ : ∃ x, xs[i]? = some x := ⟨xs[i]'(by omega), by simp [hn, hi7]⟩
  rw [hxi] at h1
  obtain ⟨s, hs, hxe, _⟩ := DataW.trod_string Tryz.underlying9 h1
  refine ⟨s, ?_, ?_⟩
  · rw [World.var?_cell hg hv0 i]
    have h2 := congrArg (fun l => l[0]?) hs
    simp only [List.getElem?_take, List.getElem?_drop] at h2
    simpa using h2
  · have h3 : (xs.map (·.1))[i]? = some (.lit (.string s.data.toList)) := by rw [List.getElem?_map, hxi, hxe]; rfl
    rw [← hx1] at h3
    have key : ∀ bs : List UInt8, (some (.lit (.string bs)) : Option (DataW Unit)) = some (.lit (.string s.data.toList)) → s.data.toList = bs := fun bs h => by
      simp only [Option.some.injEq, DataW.lit.injEq, Lit.string.injEq] at h
      exact h.symm
    match i, hi7 with
    | 0, _ => exact key _ h3
    | 1, _ => exact key _ h3
    | 2, _ => exact key _ h3
    | 3, _ => exact key _ h3
    | 4, _ => exact key _ h3
    | 5, _ => exact key _ h3
    | 6, _ => exact key _ h3

theorem WordsIn.lt {w : World} (h : WordsIn w) : 0 < w.heap.size := by
  obtain ⟨s, h, _⟩ := h 0 (by omega)
  exact cell_lt h
theorem WordsIn.low {w w' : World} {S : List Nat} (h : WordsIn w) (ho : Only S w w') (hS : 0 ∉ S) : WordsIn w' := fun i hi => by
  obtain ⟨s, h1, h2⟩ := h i hi
  exact ⟨s, (ho.cell (p := ⟨_, i, none⟩) (cell_lt h1) hS).trans h1, h2⟩
theorem WordsIn.only {w w' : World} (h : WordsIn w) (ho : Only [] w w') : WordsIn w' := h.low ho (by simp)

end Go.Proofs.YtoofalchkedciaaGreatDoor

namespace Go.Proofs.YtoofalchkedciaaGreatDoor
open Go.RowKit Go.Deep

theorem end_line (l : List UInt8) : Lib.hasSuffix l [10] = decide (l.getLast? = some 10) ∧ Lib.trimSuffix l [10] = if l.getLast? = some 10 then l.dropLast else l := by
  have h : Lib.hasSuffix l [10] = decide (l.getLast? = some 10) := by
    unfold Lib.hasSuffix
    rcases snoc_cases l with rfl | ⟨l', c, rfl⟩
    · rfl
    · rw [List.getLast?_append]
      by_cases hc : c = 10
      · subst hc; simp
      · have h1 : ¬ (some c = some (10 : UInt8)) := by simpa using hc
        simp only [List.getLast?_singleton, Option.some_or, h1, decide_false]
        cases hb : ([10] : List UInt8).isSuffixOf (l' ++ [c]) with
        | false => rfl
        | true =>
          rw [List.isSuffixOf_iff_suffix] at hb
          obtain ⟨t, ht⟩ := hb
          have := List.append_inj_right' ht (by simp)
          simp at this
          exact absurd this.symm hc
  refine ⟨h, ?_⟩
  unfold Lib.trimSuffix
  rw [h]
  by_cases h1 : l.getLast? = some 10
  · rw [if_pos h1, if_pos (by simpa using h1)]
    rw [List.dropLast_eq_take]
    rfl
  · rw [if_neg h1, if_neg (by simpa using h1)]

theorem words_ne {x : List UInt8} {k : Nat} (hk : k < 6) (e : x = wordB (k + 1)) : wordNo x = k + 1 := by
  rw [e]; exact wordNo_word (k + 1) (by omega) (by omega)
theorem words_none {x : List UInt8} (h : ∀ j, j < 6 → x ≠ wordB (j + 1)) : wordNo x = 0 := by
  unfold wordNo
  rw [if_neg (h 0 (by omega)), if_neg (h 1 (by omega)), if_neg (h 2 (by omega)), if_neg (h 3 (by omega)), if_neg (h 4 (by omega)), if_neg (h 5 (by omega))]

set_option maxRecDepth 100000 in
set_option maxHeartbeats 2000000 in
theorem index_words (x : ByteArray) (w : World) (hw : WordsIn w) :
    Calls Tryz.prog 115 #[.slice (some ⟨0, 1, none⟩) 6 6, .string x] w fun e w' => e = .returned (.int .i64 ((wordNo x.data.toList : Int) - 1)) ∧ w' = w := by
  have HW := Lib.hid hw
  clear hw
  go_enter Tryz.func115, Tryz.ntmps115
  go_wp2_with fail
  go_loopw [5, 8] (fun _ vi wr => ∃ k : Nat, k ≤ 6 ∧ vi = .int .i64 (k : Int) ∧ (∀ j, j < k → x.data.toList ≠ wordB (j + 1)) ∧ wr = w) (fun _ vi _ => 6 - (intOf vi).toNat)
  case atStart => exact ⟨0, Nat.zero_le _, rfl, fun j hj => by omega, rfl⟩
  case round =>
    obtain ⟨k, hk, rfl, hne, rfl⟩ := hrel
    have HNE := Lib.hid hne
    clear hne
    by_cases hk6 : k < 6
    · obtain ⟨s, hs, hsl⟩ := HW.out (k + 1) (by omega)
      rw [Nat.add_comm k 1] at hs
      have HSL := Lib.hid hsl
      clear hsl
      by_cases he : x.data.toList = wordB (k + 1)
      · have hq : (x.toList == s.toList) = true := by rw [Lib.toList_data, Lib.toList_data, HSL.out]; exact beq_iff_eq.2 he
        have hno : Hid (wordNo x.data.toList = k + 1) := words_ne hk6 he
        clear he
        go_wp2
        go_ret
        exact ⟨by rw [hno.out]; show Ending.returned (Value.int .i64 (k : Int)) = _; congr 2; omega, rfl⟩
      · have hq : (x.toList == s.toList) = false := by rw [Lib.toList_data, Lib.toList_data, HSL.out]; exact beq_eq_false_iff_ne.2 he
        have hno : Hid (∀ j, j < k + 1 → x.data.toList ≠ wordB (j + 1)) := fun j hj => by
          by_cases e : j = k
          · subst e; exact he
          · exact HNE.out j (by omega)
        clear he
        go_wp2
        go_roundw
        case rel => exact ⟨k + 1, by omega, by go_num, hno.out, by first | rfl | trivial⟩
        case measure => (simp [intOf]; try omega)
    · obtain rfl : k = 6 := by omega
      have hno : Hid (wordNo x.data.toList = 0) := words_none HNE.out
      go_wp2
      go_ret
      exact ⟨by rw [hno.out]; rfl, rfl⟩

end Go.Proofs.YtoofalchkedciaaGreatDoor

namespace Go.Proofs.YtoofalchkedciaaGreatDoor
open Go.RowKit Go.Deep

theorem obj_cell {w : World} {b : Nat} {cs : Array Value} {t : TypeId} (h : w.heap[b]? = some (.cells cs t (0, 0))) (i : Nat) (v : Value) (hv : cs[i]? = some v) : w.cell? ⟨b, i, none⟩ = some v := by
  rw [Lib.cell_of_heap h]; exact hv

set_option maxRecDepth 100000 in
theorem trace_fields (D : Nat) (what : Int) (w : World) (c : w.cell? ⟨D, 0, none⟩ = some (.int .i64 what)) :
    Calls Tryz.prog 66 #[.pointer (some ⟨D, 0, none⟩)] w fun e w' => ∃ F k, e = .returned (.slice (some ⟨F, 0, none⟩) k k) ∧ k = (ddPlaces what).length ∧
      w'.heap[F]? = some (.cells ((ddPlaces what).map fun j => .pointer (some ⟨D, j, none⟩)).toArray 128 (0, 0)) ∧ w.heap.size ≤ F ∧ Only [] w w' := by
  have ha := trace_alone what
  by_cases h1 : what = 5 ∨ what = 6
  · have e1 : aloneB what = true := by simp [aloneB, h1]
    rw [e1] at ha
    have e2 : ddPlaces what = [1] := by unfold ddPlaces; rw [if_pos h1]
    rw [e2]
    clear e1 e2 h1
    go_enter Tryz.func66, Tryz.ntmps66
    go_wp2_with fail
    refine (ha _).mono ?_
    rintro e w1 ⟨rfl, rfl⟩
    go_wp2
    go_ret
    exact ⟨w.heap.size, 1, rfl, rfl, heap_alloc_new _ _, Nat.le_refl _, (Only.refl [] w).alloc _⟩
  · have e1 : aloneB what = false := by simp [aloneB]; omega
    rw [e1] at ha
    by_cases h2 : what = 2
    · subst h2
      have e2 : ddPlaces 2 = [1, 2, 3] := rfl
      rw [e2]
      clear e1 e2 h1
      go_enter Tryz.func66, Tryz.ntmps66
      go_wp2_with fail
      refine (ha _).mono ?_
      rintro e w1 ⟨rfl, rfl⟩
      go_wp2_with fail
      go_region
      go_wp2
      go_ret
      exact ⟨w.heap.size, 3, rfl, rfl, heap_alloc_new _ _, Nat.le_refl _, ((Only.refl [] w).alloc _).drew⟩
    · have e2 : ddPlaces what = [1, 2] := by unfold ddPlaces; rw [if_neg h1, if_neg h2]
      rw [e2]
      have h3 : (what == 2) = false := by simpa using h2
      clear e1 e2 h1 h2
      go_enter Tryz.func66, Tryz.ntmps66
      go_wp2_with fail
      refine (ha _).mono ?_
      rintro e w1 ⟨rfl, rfl⟩
      go_wp2_with fail
      go_region
      go_wp2
      go_ret
      exact ⟨w.heap.size, 2, rfl, rfl, heap_alloc_new _ _, Nat.le_refl _, ((Only.refl [] w).alloc _).drew⟩

end Go.Proofs.YtoofalchkedciaaGreatDoor

namespace Go.Proofs.YtoofalchkedciaaGreatDoor
open Go.RowKit

theorem dig_grow : ∀ (l : List UInt8) (n : Nat), n ≤ l.foldl (fun n c => n * 10 + (c.toNat - 48)) n := by
  intro l
  induction l with
  | nil => intro n; exact Nat.le_refl _
  | cons a l ih =>
    intro n
    rw [List.foldl_cons]
    exact Nat.le_trans (by omega) (ih _)

theorem parse_digits : ∀ (l : List UInt8) (acc : Nat), l.all isDig = true →
    (Lib.parseUint10 acc l = .ok (l.foldl (fun n c => n * 10 + (c.toNat - 48)) acc) ∧ (acc < 18446744073709551616 → l.foldl (fun n c => n * 10 + (c.toNat - 48)) acc < 18446744073709551616)) ∨
    (Lib.parseUint10 acc l = .range ∧ 9223372036854775808 ≤ l.foldl (fun n c => n * 10 + (c.toNat - 48)) acc) := by
  intro l
  induction l with
  | nil => intro acc _; exact .inl ⟨rfl, fun h => h⟩
  | cons c r ih =>
    intro acc h
    rw [List.all_cons, Bool.and_eq_true] at h
    have hc : 48 ≤ c.toNat ∧ c.toNat ≤ 57 := by
      have := h.1
      simpa [isDig] using this
    rw [List.foldl_cons]
    have hg := dig_grow r (acc * 10 + (c.toNat - 48))
    simp only [Lib.parseUint10]
    rw [if_pos hc]
    by_cases h1 : 1844674407370955162 ≤ acc
    · rw [if_pos h1]
      exact .inr ⟨rfl, by omega⟩
    · rw [if_neg h1]
      by_cases h2 : 18446744073709551616 ≤ acc * 10 + (c.toNat - 48)
      · rw [if_pos h2]
        exact .inr ⟨rfl, by omega⟩
      · rw [if_neg h2]
        rcases ih (acc * 10 + (c.toNat - 48)) h.2 with ⟨a, b⟩ | hb
        · exact .inl ⟨a, fun _ => b (by omega)⟩
        · exact .inr hb

theorem atoi_digits (d : List UInt8) (h : d.all isDig = true) (h0 : d ≠ []) :
    (Lib.atoiAll d = .ok (digV d : Int)) ∨ (Lib.atoiAll d = .range ∧ 9223372036854775808 ≤ digV d) := by
  cases d with
  | nil => exact absurd rfl h0
  | cons c r =>
    have hc : 48 ≤ c.toNat ∧ c.toNat ≤ 57 := by
      rw [List.all_cons, Bool.and_eq_true] at h
      simpa [isDig] using h.1
    unfold Lib.atoiAll
    have n1 : ¬ c.toNat = 43 := by omega
    have n2 : ¬ c.toNat = 45 := by omega
    simp only [n1, n2, or_self, if_false, false_and]
    unfold Lib.parseMag
    rw [if_neg (by simp)]
    rcases parse_digits (c :: r) 0 h with ⟨a, b⟩ | ⟨a, b⟩
    · rw [a]
      unfold digV
      by_cases hz : 9223372036854775808 ≤ (c :: r).foldl (fun n c => n * 10 + (c.toNat - 48)) 0
      · right
        simp only [hz]
        simp
      · left
        simp only [hz]
        simp
    · rw [a]
      right
      exact ⟨rfl, b⟩

/-- What Atoi says of digits. -/
def AtoiD (d : List UInt8) (w : World) (e : Ending) (w' : World) : Prop :=
  ∃ (n : Int) (v : Value), e = .returned (.tuple #[.int .i64 n, v]) ∧ ((v = .nilIface ∧ n = (digV d : Int) ∧ d ≠ []) ∨ (∃ N, v = .iface 315 (.pointer (some ⟨N, 0, none⟩)) ∧ (d = [] ∨ 21 ≤ digV d))) ∧ (-9223372036854775808 ≤ n ∧ n ≤ 9223372036854775807) ∧ Only [] w w'

theorem atoi_at_digits (s : ByteArray) (d : List UInt8) (hd : s.data.toList = d) (h : d.all isDig = true) (hs : s.size ≤ 1000) (w : World) (base : Nat) (hv : ErrsAt w base) :
    Calls Tryz.prog 159 #[.string s] w (AtoiD d w) := by
  subst hd
  obtain ⟨hsyn, hrange, _⟩ := hv
  by_cases h0 : s.data.toList = []
  · obtain ⟨tp, p, hv⟩ := hsyn
    refine (Tryz.strconv_Atoi_empty_var s (by omega) h0 tp p w hv).mono ?_
    rintro e w' ⟨N, rfl, _, _, hb⟩
    exact ⟨_, _, rfl, .inr ⟨N, rfl, .inl h0⟩, by omega, Only.ofBelow hb⟩
  · rcases atoi_digits _ h h0 with hk | ⟨hk, hbig⟩
    · have hbd := Lib.atoiAll_bounds hk
      refine (Tryz.strconv_Atoi_ok s (by omega) _ hk w).mono ?_
      rintro e w' ⟨rfl, hw⟩
      refine ⟨_, _, rfl, .inl ⟨rfl, rfl, h0⟩, hbd, ?_⟩
      rcases hw with rfl | ⟨t, rfl⟩
      · exact Only.refl _ _
      · exact Only.ofBelow (Lib.below_freeze ((Below.drew (Below.refl _ w)).alloc (Nat.le_refl _) _) (p := ⟨w.heap.size, _, none⟩) (Nat.le_refl _) _)
    · obtain ⟨tp, p, hv⟩ := hrange
      refine (Tryz.strconv_Atoi_range_var s (by omega) hk tp p w hv).mono ?_
      rintro e w' ⟨N, rfl, _, _, hb⟩
      refine ⟨_, _, rfl, .inr ⟨N, rfl, .inr (by omega)⟩, ?_, Only.ofBelow hb⟩
      unfold Lib.atoiSat
      split <;> omega

end Go.Proofs.YtoofalchkedciaaGreatDoor

namespace Go.Proofs.YtoofalchkedciaaGreatDoor
open Go.RowKit Go.Deep

/-- The library's variables hold what they held. -/
def Std (w : World) : Prop := VarErr "strconv.ErrSyntax" w ∧ VarErr "strconv.ErrRange" w ∧ Lib.TabIs Tryz.prog w "internal/strconv.uint64pow10" .u64 Lib.pow10Tab ∧ ∃ m, w.cell? ⟨4, 0, none⟩ = some (.int .i64 m)

theorem Std.only {w w' : World} (h : Std w) (ho : Only [] w w') : Std w' := by
  obtain ⟨h1, h2, h3, m, h4⟩ := h
  exact ⟨h1.only ho, h2.only ho, var_only h3 ho, m, (ho.cell (cell_lt h4) (by simp)).trans h4⟩

theorem max_len (W : World) (h : W.ShapedOpen Tryz.prog) : ∃ m, W.cell? ⟨4, 0, none⟩ = some (.int .i64 m) :=
  cell_of_shapedOpen_int (t := 3) (zero := #[.int .i64 0]) h (of_decide_eq_true (by kernel_rfl)) (by kernel_rfl) rfl (by kernel_rfl) (by kernel_rfl) Tryz.underlying3

theorem grow_only (w : World) (os : Array Obj) : Only [] w (Sort.grow w os) :=
  ⟨rfl, rfl, rfl, by rw [Sort.size_grow]; omega, fun k hk _ => Sort.heap_grow_old w os hk⟩

/-- What Atoi does with any text. -/
theorem atoi_any (s : ByteArray) (hs : s.size ≤ 2000000) (w : World) (hstd : Std w) :
    Calls Tryz.prog 159 #[.string s] w fun e w' => ∃ (n : Int) (v : Value), e = .returned (.tuple #[.int .i64 n, v]) ∧ (-9223372036854775808 ≤ n ∧ n ≤ 9223372036854775807) ∧ Only [] w w' ∧
      ((v = .nilIface ∧ Lib.atoiAll s.data.toList = .ok n) ∨ ((∃ t N, v = .iface t (.pointer (some ⟨N, 0, none⟩))) ∧ ∀ v, Lib.atoiAll s.data.toList ≠ .ok v)) := by
  obtain ⟨hsyn, hran, _⟩ := hstd
  cases hk : Lib.atoiAll s.data.toList with
  | ok v =>
    have hbd := Lib.atoiAll_bounds hk
    refine (Tryz.strconv_Atoi_ok s (by omega) _ hk w).mono ?_
    rintro e w' ⟨rfl, hw⟩
    refine ⟨_, _, rfl, hbd, ?_, .inl ⟨rfl, rfl⟩⟩
    rcases hw with rfl | ⟨t, rfl⟩
    · exact Only.refl _ _
    · exact Only.ofBelow (Lib.below_freeze ((Below.drew (Below.refl _ w)).alloc (Nat.le_refl _) _) (p := ⟨w.heap.size, _, none⟩) (Nat.le_refl _) _)
  | range =>
    obtain ⟨tp, p, hv⟩ := hran
    refine (Tryz.strconv_Atoi_range_var s (by omega) hk tp p w hv).mono ?_
    rintro e w' ⟨N, rfl, _, _, hb⟩
    refine ⟨_, _, rfl, ?_, Only.ofBelow hb, .inr ⟨⟨_, N, rfl⟩, fun v h => by cases h⟩⟩
    unfold Lib.atoiSat
    split <;> omega
  | _ =>
    obtain ⟨tp, p, hv⟩ := hsyn
    refine (Tryz.strconv_Atoi_bad_var s (by omega) (fun v h => by rw [hk] at h; cases h) (fun h => by rw [hk] at h; cases h) tp p w hv).mono ?_
    rintro e w' ⟨N, rfl, _, _, hb⟩
    exact ⟨_, _, rfl, by omega, Only.ofBelow hb, .inr ⟨⟨_, N, rfl⟩, fun v h => by cases h⟩⟩

end Go.Proofs.YtoofalchkedciaaGreatDoor

namespace Go.Proofs.YtoofalchkedciaaGreatDoor
open Go.RowKit Go.Deep

/-- .. of a number. -/
theorem num_atoi {most : Nat} (hm : most ≤ 9) {l : List UInt8} (h : numOk most l = true) : Lib.atoiAll l = .ok (digV l : Int) := by
  obtain ⟨h1, h2, h3, _⟩ := numOk_iff.1 h
  rcases atoi_digits l h3 h1 with h4 | ⟨_, h4⟩
  · exact h4
  · have h5 := digV_pow l h3
    have h6 : 10 ^ l.length ≤ 10 ^ 9 := Nat.pow_le_pow_right (by omega) (by omega)
    omega

set_option maxRecDepth 100000 in
theorem plan_Number (s : ByteArray) (most : Nat) (hm : most ≤ 9) (hs : s.size ≤ 2000000) (w : World) (hstd : Std w) :
    Calls Tryz.prog 109 #[.string s, .int .i64 most] w fun e w' => ∃ n : Int, e = .returned (.tuple #[.int .i64 n, .bool (numOk most s.data.toList)]) ∧ (-9223372036854775808 ≤ n ∧ n ≤ 9223372036854775807) ∧ (numOk most s.data.toList = true → n = (digV s.data.toList : Int)) ∧ Only [] w w' := by
  have hat := atoi_any s hs w hstd
  have hsl : s.data.toList.length = s.size := Array.length_toList
  have HSL := Lib.hid hsl
  have HSTD := Lib.hid hstd
  clear hsl hstd
  go_enter Tryz.func109, Tryz.ntmps109
  go_wp2_with fail
  refine hat.mono ?_
  rintro e w1 ⟨n, v, rfl, hbd, ho, hv⟩
  have HO := Lib.hid ho
  clear hat ho
  rcases hv with ⟨rfl, hk⟩ | ⟨⟨t, N, rfl⟩, hno⟩
  · have hnum : Hid (numOk most s.data.toList = true → n = (digV s.data.toList : Int)) := fun h => by
      have := num_atoi hm h
      rw [hk] at this
      injection this
    by_cases h0 : 0 ≤ n
    · by_cases hlen : s.size ≤ most
      · obtain ⟨k, rfl⟩ := Int.eq_ofNat_of_zero_le h0
        have hito := Tryz.strconv_Itoa (k : Int) (by omega) (by omega) w1 (HSTD.out.only HO.out).2.2.1
        rw [Lib.itoa_nonneg] at hito
        have hd1 : decide ((s.size : Int) ≤ (most : Int)) = true := decide_eq_true (by omega)
        have hd0 : decide (0 ≤ (k : Int)) = true := by simp
        obtain ⟨b, hb⟩ : ∃ b, numOk most s.data.toList = b := ⟨_, rfl⟩
        obtain ⟨sb, hsb⟩ : ∃ sb : ByteArray, (⟨(Lib.decDigits k).toArray⟩ : ByteArray) = sb := ⟨_, rfl⟩
        have hsd : sb.data.toList = Lib.decDigits k := by rw [← hsb]
        have hcmp : (sb.toList == s.toList) = b := by
          rw [← hb, Lib.toList_data, Lib.toList_data, hsd]
          by_cases e : Lib.decDigits k = s.data.toList
          · have h1 := (dec_num (most := most) e (by rw [HSL.out]; exact hlen)).1
            rw [h1]
            exact beq_iff_eq.2 e
          · have h1 : numOk most s.data.toList = false := by
              cases h : numOk most s.data.toList with
              | false => rfl
              | true =>
                have h2 := hnum.out h
                have h3 := num_dec h
                rw [show digV s.data.toList = k by omega] at h3
                exact absurd h3 e
            rw [h1]
            exact beq_eq_false_iff_ne.2 e
        rw [hsb] at hito
        clear hsb hsd
        have HB := Lib.hid hb
        clear hk h0 hb
        go_wp2_with fail
        refine hito.mono ?_
        rintro e w2 ⟨rfl, kk, os, hw2⟩
        have ho2 : Only [] w1 w2 := by rw [hw2]; exact ((Only.refl [] w1).drewN kk).trans (grow_only _ os) (by simp)
        clear hito hw2
        go_wp2
        go_ret2
        exact ⟨k, by rw [HB.out]; rfl, hbd, hnum.out, HO.out.trans ho2 (by simp)⟩
      · have hb : numOk most s.data.toList = false := by
          cases h : numOk most s.data.toList with
          | false => rfl
          | true => have := (numOk_iff.1 h).2.1; have := HSL.out; omega
        have HB := Lib.hid hb
        have hd1 : decide ((s.size : Int) ≤ (most : Int)) = false := decide_eq_false (by omega)
        have hd0 : decide (0 ≤ n) = true := by simpa using h0
        clear hk hb
        go_wp2
        go_ret2
        exact ⟨n, by rw [HB.out]; rfl, hbd, hnum.out, HO.out⟩
    · have hb : numOk most s.data.toList = false := by
        cases h : numOk most s.data.toList with
        | false => rfl
        | true => have := hnum.out h; omega
      have HB := Lib.hid hb
      have hd0 : decide (0 ≤ n) = false := by simpa using h0
      clear hk hb
      go_wp2
      go_ret2
      exact ⟨n, by rw [HB.out]; rfl, hbd, hnum.out, HO.out⟩
  · have hb : numOk most s.data.toList = false := by
      cases h : numOk most s.data.toList with
      | false => rfl
      | true => exact absurd (num_atoi hm h) (hno _)
    have HB := Lib.hid hb
    clear hno hb
    go_wp2
    go_ret2
    exact ⟨n, by rw [HB.out]; rfl, hbd, fun h => (by rw [HB.out] at h; cases h), HO.out⟩

end Go.Proofs.YtoofalchkedciaaGreatDoor

namespace Go.Proofs.YtoofalchkedciaaGreatDoor
open Go.RowKit Go.Deep


theorem idx_no (c : UInt8) : ∀ (l : List UInt8), c ∉ l → Lib.index l [c] = -1
  | [], _ => rfl
  | b :: l, h => by
    have h1 : b ≠ c := fun e => h (by simp [e])
    have h2 := idx_no c l (fun hm => h (by simp [hm]))
    unfold Lib.index
    rw [h2]
    have h3 : (c == b) = false := beq_eq_false_iff_ne.2 (fun e => h1 e.symm)
    simp [List.isPrefixOf, h3]
theorem idx_at (c : UInt8) : ∀ (p r : List UInt8), c ∉ p → Lib.index (p ++ c :: r) [c] = p.length
  | [], r, _ => by
    show Lib.index (c :: r) [c] = 0
    unfold Lib.index
    simp [List.isPrefixOf]
  | b :: p, r, h => by
    have h1 : b ≠ c := fun e => h (by simp [e])
    have h2 := idx_at c p r (fun hm => h (by simp [hm]))
    rw [List.cons_append]
    unfold Lib.index
    rw [h2]
    have h3 : (c == b) = false := beq_eq_false_iff_ne.2 (fun e => h1 e.symm)
    have h4 : ((p.length : Int) == -1) = false := beq_eq_false_iff_ne.2 (by omega)
    simp [List.isPrefixOf, h3, h4]

theorem cut_no (c : UInt8) (l : List UInt8) (h : c ∉ l) : Lib.cut l [c] = (l, [], false) := by
  unfold Lib.cut
  rw [idx_no c l h, if_neg (by omega)]
theorem cut_has (c : UInt8) (p r : List UInt8) (h : c ∉ p) : Lib.cut (p ++ c :: r) [c] = (p, r, true) := by
  unfold Lib.cut
  rw [idx_at c p r h, if_pos (by omega)]
  have e : ((p.length : Int)).toNat = p.length := by omega
  rw [e]
  have h1 : (p ++ c :: r).take p.length = p := by simp
  have h2 : (p ++ c :: r).drop (p.length + [c].length) = r := by
    rw [← List.drop_drop]
    simp
  rw [h1, h2]

theorem splitK_cut (c : UInt8) : ∀ (f : Nat) (l : List UInt8), l.length < f → Lib.splitK [c] 0 (Lib.countFrom [c] f l) l = cutL c l ∧ Lib.countFrom [c] f l + 1 = (cutL c l).length
  | 0, l, h => by omega
  | f + 1, l, h => by
    by_cases hm : c ∈ l
    · obtain ⟨p, r, rfl, hp⟩ := List.eq_append_cons_of_mem hm
      obtain ⟨ih1, ih2⟩ := splitK_cut c f r (by simp at h; omega)
      have hx := idx_at c p r hp
      have e : ((p.length : Int)).toNat = p.length := by omega
      have hd : (p ++ c :: r).drop (p.length + [c].length) = r := by
        rw [← List.drop_drop]
        simp
      have h4 : ((p.length : Int) == -1) = false := beq_eq_false_iff_ne.2 (by omega)
      have hc : Lib.countFrom [c] (f + 1) (p ++ c :: r) = Lib.countFrom [c] f r + 1 := by
        conv => lhs; unfold Lib.countFrom
        rw [hx, h4, e, hd]
        simp
        omega
      rw [hc, cutL_at c p r hp]
      refine ⟨?_, by rw [List.length_cons]; omega⟩
      conv => lhs; unfold Lib.splitK
      rw [hx, h4, e, hd, ih1]
      simp
    · have hx := idx_no c l hm
      have hc : Lib.countFrom [c] (f + 1) l = 0 := by
        unfold Lib.countFrom
        rw [hx]
        simp
      rw [hc, cutL_no c l hm]
      exact ⟨rfl, rfl⟩

theorem split_cut (c : UInt8) (s : ByteArray) : Lib.splitB ⟨#[c]⟩ 0 (Lib.countB s ⟨#[c]⟩) s = cutS c s ∧ Lib.countB s ⟨#[c]⟩ + 1 = (cutS c s).length := by
  obtain ⟨h1, h2⟩ := splitK_cut c (s.data.toList.length + 1) s.data.toList (by omega)
  have e : Lib.countB s ⟨#[c]⟩ = Lib.countFrom [c] (s.data.toList.length + 1) s.data.toList := rfl
  refine ⟨?_, by rw [cutS_len, e]; exact h2⟩
  have h3 := Lib.splitB_data ⟨#[c]⟩ 0 (Lib.countB s ⟨#[c]⟩) s
  rw [e] at h3 ⊢
  have h4 : (Lib.splitB ⟨#[c]⟩ 0 (Lib.countFrom [c] (s.data.toList.length + 1) s.data.toList) s).map (·.data.toList) = cutL c s.data.toList := h3.trans h1
  unfold cutS
  rw [← h4, List.map_map]
  conv => lhs; rw [← List.map_id (Lib.splitB ⟨#[c]⟩ 0 (Lib.countFrom [c] (s.data.toList.length + 1) s.data.toList) s)]
  refine List.map_congr_left fun x _ => ?_
  cases x
  simp

theorem str_Split (s : ByteArray) (c : UInt8) (hs : s.size ≤ 2000000) (w : World) (h : Std w) :
    Calls Tryz.prog 59 #[.string s, .string ⟨#[c]⟩] w fun e w' => ∃ a k, e = .returned (.slice a (cutS c s).length k) ∧ OwnStrs w' w.heap.size (.slice a (cutS c s).length k) (cutS c s) ∧ Only [] w w' := by
  obtain ⟨_, _, _, m, hm⟩ := h
  obtain ⟨h1, h2⟩ := split_cut c s
  refine (Tryz.strings_Split s ⟨#[c]⟩ m w (by omega) hm (Nat.le_refl _)).mono ?_
  rintro e w' ⟨rfl, rfl⟩
  rw [h1, h2]
  refine ⟨_, _, rfl, ⟨by simp, .inr ⟨w.heap.size, (cutS c s).length, _, rfl, Nat.le_refl _, heap_alloc_new _ _, Nat.le_refl _, ?_, by simp, by simp [List.take_of_length_le]⟩⟩, (Only.refl [] w).alloc _⟩
  have h3 := cutL_len c s.data.toList
  have h4 : s.data.toList.length = s.size := Array.length_toList
  rw [cutS_len]
  unfold maxLen
  omega

theorem str_Cut (s : ByteArray) (c : UInt8) (hs : s.size ≤ 2000000) (w : World) (h : Std w) :
    Calls Tryz.prog 108 #[.string s, .string ⟨#[c]⟩] w fun e w' => ∃ (p r : ByteArray) (b : Bool), e = .returned (.tuple #[.string p, .string r, .bool b]) ∧
      ((b = false ∧ p = s ∧ r = ⟨#[]⟩ ∧ c ∉ s.data.toList) ∨ (b = true ∧ s.data.toList = p.data.toList ++ c :: r.data.toList ∧ c ∉ p.data.toList)) ∧ Only [] w w' := by
  obtain ⟨_, _, _, m, hm⟩ := h
  refine (Tryz.strings_Cut s ⟨#[c]⟩ m w (by omega) hm).mono ?_
  rintro e w' ⟨rfl, n, rfl⟩
  refine ⟨_, _, _, rfl, ?_, (Only.refl [] w).drewN n⟩
  by_cases hc : c ∈ s.data.toList
  · obtain ⟨p, r, e, hp⟩ := List.eq_append_cons_of_mem hc
    have h1 : Lib.cut s.data.toList (⟨#[c]⟩ : ByteArray).data.toList = (p, r, true) := by rw [e]; exact cut_has c p r hp
    rw [h1]
    exact .inr ⟨rfl, e, hp⟩
  · have h1 : Lib.cut s.data.toList (⟨#[c]⟩ : ByteArray).data.toList = (s.data.toList, [], false) := cut_no c _ hc
    rw [h1]
    refine .inl ⟨rfl, ?_, rfl, hc⟩
    cases s
    simp

end Go.Proofs.YtoofalchkedciaaGreatDoor
