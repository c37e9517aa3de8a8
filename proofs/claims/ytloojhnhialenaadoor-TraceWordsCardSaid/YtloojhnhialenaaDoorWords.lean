/-
  What the listed table of trace's words gives a walk.
-/
import Derived.Test.YtloojhnhialenaaDoorDeedP
import Derived.Test.YtloojhnhialenaaDoorLaid
import Derived.OpenShut
namespace Go.Proofs.YtloojhnhialenaaDoor
open Go.ChangeShapes Go.WideShapes Go.RowKit Go.Deep

/-- The table of words. -/
def WordsIn (w : World) : Prop := ∀ i, i < 7 → ∃ s : ByteArray, w.cell? ⟨0, i, none⟩ = some (.string s) ∧ s.data.toList = wordB i

set_option maxRecDepth 100000 in
theorem words_of {r : List (String × DataW Unit)} {W : World} (h : laidMet Tryd.prog (("yardgang/trace.words", Rows.laid_yardgang_trace_words) :: r) W) : WordsIn W := by
  obtain ⟨ps, ⟨g0, t0, cs0, f0, p0, q0, hg0, ht0, hv0, hd0, _, e0⟩, _, hrows⟩ := h
  have hg : Tryd.prog.globalNamed "yardgang/trace.words" = some 0 := by kernel_rfl
  have ht : (Tryd.prog.globals[0]?).map (·.type) = some 67 := by kernel_rfl
  obtain rfl := Option.some.inj (hg.symm.trans hg0)
  obtain rfl := Option.some.inj (ht.symm.trans ht0)
  obtain ⟨xs, m, _, hx, hl, hn, hi⟩ := DataW.trod_array Tryd.underlying67 hd0
  have hc1 : Tryd.prog.cellsOf 9 = 1 := by kernel_rfl
  simp only [hc1, Nat.mul_one] at hi
  have hx1 := (congrArg Prod.fst hx)
  simp only [Rows.laid_yardgang_trace_words, DataW.agg.injEq] at hx1
  intro i hi7
  have h1 := hi i hi7
  obtain ⟨x, hxi⟩ : ∃ x, xs[i]? = some x := ⟨xs[i]'(by omega), by simp [hn, hi7]⟩
  rw [hxi] at h1
  obtain ⟨s, hs, hxe, _⟩ := DataW.trod_string Tryd.underlying9 h1
  refine ⟨s, ?_, ?_⟩
  · rw [World.var?_cell hg hv0 i]
    have h2 := congrArg (fun l => l[0]?) hs
    simp only [List.getElem?_take, List.getElem?_drop] at h2
    simpa using h2
  · have h3 : (xs.map (·.1))[i]? = some (.lit (.string s.data.toList)) := by rw [List.getElem?_map, hxi, hxe]; rfl
    rw [← hx1] at h3
    have key : ∀ bs : List UInt8, (some (.lit (.string bs)) : Option (DataW Unit)) = some (.lit (.string s.data.toList)) → s.data.toList = bs := fun bs h => by
      simp only [Option.some.injEq, DataW.lit.injEq, Lit.string.injEq] at h
      exact h.symm
    match i, hi7 with
    | 0, _ => exact key _ h3
    | 1, _ => exact key _ h3
    | 2, _ => exact key _ h3
    | 3, _ => exact key _ h3
    | 4, _ => exact key _ h3
    | 5, _ => exact key _ h3
    | 6, _ => exact key _ h3

theorem WordsIn.lt {w : World} (h : WordsIn w) : 0 < w.heap.size := by
  obtain ⟨s, h, _⟩ := h 0 (by omega)
  exact cell_lt h
theorem WordsIn.low {w w' : World} {S : List Nat} (h : WordsIn w) (ho : Only S w w') (hS : 0 ∉ S) : WordsIn w' := fun i hi => by
  obtain ⟨s, h1, h2⟩ := h i hi
  exact ⟨s, (ho.cell (p := ⟨_, i, none⟩) (cell_lt h1) hS).trans h1, h2⟩
theorem WordsIn.only {w w' : World} (h : WordsIn w) (ho : Only [] w w') : WordsIn w' := h.low ho (by simp)

end Go.Proofs.YtloojhnhialenaaDoor
