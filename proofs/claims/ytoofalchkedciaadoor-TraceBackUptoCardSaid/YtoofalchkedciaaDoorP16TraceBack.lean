/-
  What the listed table of trace's words gives a walk.
  Contract of slices.Index over trace's words; a line's end.
-/
import Derived.Test.YtoofalchkedciaaDoorP8TraceBack
import Derived.Test.YtoofalchkedciaaDoorP2TraceBack
import Derived.OpenShut
import Derived.Test.YtoofalchkedciaaDoorP15TraceBack
import Derived.Lib.Strings
namespace Go.Proofs.YtoofalchkedciaaDoor
open Go.ChangeShapes Go.WideShapes Go.RowKit Go.Deep

/-- The table of words. -/
def WordsIn (w : World) : Prop := ∀ i, i < 7 → ∃ s : ByteArray, w.cell? ⟨0, i, none⟩ = some (.string s) ∧ s.data.toList = wordB i

set_option maxRecDepth 100000 in
theorem words_of {r : List (String × DataW Unit)} {W : World} (h : laidMet Tryd.prog (("yardgang/trace.words", Rows.laid_yardgang_trace_words) :: r) W) : WordsIn W := by
  obtain ⟨ps, ⟨g0, t0, cs0, f0, p0, q0, hg0, ht0, hv0, hd0, _, e0⟩, _, hrows⟩ := h
  have hg : Tryd.prog.globalNamed "yardgang/trace.words" = some 0 := by kernel_rfl
  have ht : (Tryd.prog.globals[0]?).map (·.type) = some 78 := by kernel_rfl
  obtain rfl := Option.some.inj (hg.symm.trans hg0)
  obtain rfl := Option.some.inj (ht.symm.trans ht0)
  obtain ⟨xs, m, _, hx, hl, hn, hi⟩ := DataW.trod_array Tryd.underlying78 hd0
  have hc1 : Tryd.prog.cellsOf 9 = 1 := by kernel_rfl
  simp only [hc1, Nat.mul_one] at hi
  have hx1 := (congrArg Prod.fst hx)
  simp only [Rows.laid_yardgang_trace_words, DataW.agg.injEq] at hx1
  intro i hi7
  have h1 := hi i hi7
  obtain ⟨x, hxi⟩ : ∃ x, xs[i]? = some x := ⟨xs[i]'(by omega), by simp [hn, hi7]⟩
  rw [hxi] at h1
  obtain ⟨s, hs, hxe, _⟩ := DataW.trod_string Tryd.underlying9 h1
  refine ⟨s, ?_, ?_⟩
  · rw [World.var?_cell hg hv0 i]
    have h2 := congrArg (fun l => l[0]?) hs
    simp only [List.getElem?_take, List.getElem?_drop] at h2
    simpa using h2
  · have h3 : (xs.map (·.1))[i]? = some (.lit (.string s.data.toList)) := by rw [List.getElem?_map, hxi, hxe]; rfl
    rw [← hx1] at h3
    have key : ∀ bs : List UInt8, (some (.lit (.string bs)) : Option (DataW Unit)) = some (.lit (.string s.data.toList)) → s.data.toList = bs := fun bs h => by
      simp only [Option.some.injEq, DataW.lit.injEq, Lit.string.injEq] at h
      exact h.symm
    match i, hi7 with
    | 0, _ => exact key _ h3
    | 1, _ => exact key _ h3
    | 2, _ => exact key _ h3
    | 3, _ => exact key _ h3
    | 4, _ => exact key _ h3
    | 5, _ => exact key _ h3
    | 6, _ => exact key _ h3

theorem WordsIn.lt {w : World} (h : WordsIn w) : 0 < w.heap.size := by
  obtain ⟨s, h, _⟩ := h 0 (by omega)
  exact cell_lt h
theorem WordsIn.low {w w' : World} {S : List Nat} (h : WordsIn w) (ho : Only S w w') (hS : 0 ∉ S) : WordsIn w' := fun i hi => by
  obtain ⟨s, h1, h2⟩ := h i hi
  exact ⟨s, (ho.cell (p := ⟨_, i, none⟩) (cell_lt h1) hS).trans h1, h2⟩
theorem WordsIn.only {w w' : World} (h : WordsIn w) (ho : Only [] w w') : WordsIn w' := h.low ho (by simp)

end Go.Proofs.YtoofalchkedciaaDoor

namespace Go.Proofs.YtoofalchkedciaaDoor
open Go.RowKit Go.Deep

theorem end_line (l : List UInt8) : Lib.hasSuffix l [10] = decide (l.getLast? = some 10) ∧ Lib.trimSuffix l [10] = if l.getLast? = some 10 then l.dropLast else l := by
  have h : Lib.hasSuffix l [10] = decide (l.getLast? = some 10) := by
    unfold Lib.hasSuffix
    rcases snoc_cases l with rfl | ⟨l', c, rfl⟩
    · rfl
    · rw [List.getLast?_append]
      by_cases hc : c = 10
      · subst hc; simp
      · have h1 : ¬ (some c = some (10 : UInt8)) := by simpa using hc
        simp only [List.getLast?_singleton, Option.some_or, h1, decide_false]
        cases hb : ([10] : List UInt8).isSuffixOf (l' ++ [c]) with
        | false => rfl
        | true =>
          rw [List.isSuffixOf_iff_suffix] at hb
          obtain ⟨t, ht⟩ := hb
          have := List.append_inj_right' ht (by simp)
          simp at this
          exact absurd this.symm hc
  refine ⟨h, ?_⟩
  unfold Lib.trimSuffix
  rw [h]
  by_cases h1 : l.getLast? = some 10
  · rw [if_pos h1, if_pos (by simpa using h1)]
    rw [List.dropLast_eq_take]
    rfl
  · rw [if_neg h1, if_neg (by simpa using h1)]

theorem words_ne {x : List UInt8} {k : Nat} (hk : k < 6) (e : x = wordB (k + 1)) : wordNo x = k + 1 := by
  rw [e]; exact wordNo_word (k + 1) (by omega) (by omega)
theorem words_none {x : List UInt8} (h : ∀ j, j < 6 → x ≠ wordB (j + 1)) : wordNo x = 0 := by
  unfold wordNo
  rw [if_neg (h 0 (by omega)), if_neg (h 1 (by omega)), if_neg (h 2 (by omega)), if_neg (h 3 (by omega)), if_neg (h 4 (by omega)), if_neg (h 5 (by omega))]

set_option maxRecDepth 100000 in
set_option maxHeartbeats 2000000 in
theorem index_words (x : ByteArray) (w : World) (hw : WordsIn w) :
    Calls Tryd.prog 50 #[.slice (some ⟨0, 1, none⟩) 6 6, .string x] w fun e w' => e = .returned (.int .i64 ((wordNo x.data.toList : Int) - 1)) ∧ w' = w := by
  have HW := Lib.hid hw
  clear hw
  go_enter Tryd.func50, Tryd.ntmps50
  go_wp2_with fail
  go_loopw [5, 8] (fun _ vi wr => ∃ k : Nat, k ≤ 6 ∧ vi = .int .i64 (k : Int) ∧ (∀ j, j < k → x.data.toList ≠ wordB (j + 1)) ∧ wr = w) (fun _ vi _ => 6 - (intOf vi).toNat)
  case atStart => exact ⟨0, Nat.zero_le _, rfl, fun j hj => by omega, rfl⟩
  case round =>
    obtain ⟨k, hk, rfl, hne, rfl⟩ := hrel
    have HNE := Lib.hid hne
    clear hne
    by_cases hk6 : k < 6
    · obtain ⟨s, hs, hsl⟩ := HW.out (k + 1) (by omega)
      rw [Nat.add_comm k 1] at hs
      have HSL := Lib.hid hsl
      clear hsl
      by_cases he : x.data.toList = wordB (k + 1)
      · have hq : (x.toList == s.toList) = true := by rw [Lib.toList_data, Lib.toList_data, HSL.out]; exact beq_iff_eq.2 he
        have hno : Hid (wordNo x.data.toList = k + 1) := words_ne hk6 he
        clear he
        go_wp2
        go_ret
        exact ⟨by rw [hno.out]; show Ending.returned (Value.int .i64 (k : Int)) = _; congr 2; omega, rfl⟩
      · have hq : (x.toList == s.toList) = false := by rw [Lib.toList_data, Lib.toList_data, HSL.out]; exact beq_eq_false_iff_ne.2 he
        have hno : Hid (∀ j, j < k + 1 → x.data.toList ≠ wordB (j + 1)) := fun j hj => by
          by_cases e : j = k
          · subst e; exact he
          · exact HNE.out j (by omega)
        clear he
        go_wp2
        go_roundw
        case rel => exact ⟨k + 1, by omega, by go_num, hno.out, by first | rfl | trivial⟩
        case measure => (simp [intOf]; try omega)
    · obtain rfl : k = 6 := by omega
      have hno : Hid (wordNo x.data.toList = 0) := words_none HNE.out
      go_wp2
      go_ret
      exact ⟨by rw [hno.out]; rfl, rfl⟩

end Go.Proofs.YtoofalchkedciaaDoor
