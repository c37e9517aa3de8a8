/-
  What the listed variables of a tied card give a walk; a world in which all of them hold what the text lays.
-/
import Derived.Test.YtoofalchkedciaaDoorFrame
import Derived.Test.YtoofalchkedciaaDoorRows
import Derived.ChangeSame
import Derived.ChangeVars
import Derived.JoinedOf
import Derived.RowKit
import Derived.LaidLaws
import Derived.LaidHandle
import Derived.Stop.Joined
import Derived.Stop.LaidErr
namespace Go.Proofs.YtoofalchkedciaaDoor
open Go.ChangeShapes Go.WideShapes Go.RowKit


/-- A package-level variable that holds an error. -/
def VarErr (n : String) (w : World) : Prop := ∃ tp p, w.var? Tryd.prog n = some #[.iface tp p]

theorem var_only {w w' : World} {n : String} {cs : Array Value} (h : w.var? Tryd.prog n = some cs) (ho : Only [] w w') : w'.var? Tryd.prog n = some cs := by
  unfold World.var? at h ⊢
  cases hg : Tryd.prog.globalNamed n with
  | none => simp [hg] at h
  | some g =>
    simp only [hg, Option.bind_some] at h ⊢
    have hlt : g < w.heap.size := by
      rcases Nat.lt_or_ge g w.heap.size with h' | h'
      · exact h'
      · simp [Array.getElem?_eq_none h'] at h
    rw [ho.block g hlt (by simp)]
    exact h
theorem VarErr.low {n : String} {w w' : World} {S : List Nat} {g : Nat} (h : VarErr n w) (ho : Only S w w') (hg : Tryd.prog.globalNamed n = some g) (hS : g ∉ S) : VarErr n w' := by
  obtain ⟨tp, p, h⟩ := h
  refine ⟨tp, p, ?_⟩
  unfold World.var? at h ⊢
  simp only [hg, Option.bind_some] at h ⊢
  have hlt : g < w.heap.size := by
    rcases Nat.lt_or_ge g w.heap.size with h' | h'
    · exact h'
    · simp [Array.getElem?_eq_none h'] at h
  rw [ho.block g hlt hS]
  exact h
theorem VarErr.lt {n : String} {w : World} {g : Nat} (h : VarErr n w) (hg : Tryd.prog.globalNamed n = some g) : g < w.heap.size := by
  obtain ⟨tp, p, h⟩ := h
  unfold World.var? at h
  simp only [hg, Option.bind_some] at h
  rcases Nat.lt_or_ge g w.heap.size with h' | h'
  · exact h'
  · simp [Array.getElem?_eq_none h'] at h
theorem VarErr.only {n : String} {w w' : World} (h : VarErr n w) (ho : Only [] w w') : VarErr n w' := by
  obtain ⟨tp, p, h⟩ := h
  exact ⟨tp, p, var_only h ho⟩

theorem lay_star : "*errors.errorString" = "*" ++ "errors.errorString" := by decide
theorem lay_row (u : TypeId) (h : Tryd.prog.typeName? 3 u = some "*errors.errorString") : u = 149 :=
  typeName_ptr_named (nm := "errors.errorString") (by rw [← lay_star]; kernel_rfl) (by kernel_rfl) (by decide) u (by rw [← lay_star]; exact h)
theorem varErr_of {n : String} {text : List UInt8} {r : List (String × DataW Unit)} {W : World} {g : Nat} (h : laidMet Tryd.prog ((n, .iface "*errors.errorString" (.ptr (.agg [.lit (.string text)]))) :: r) W)
    (hg : Tryd.prog.globalNamed n = some g) (ht : (Tryd.prog.globals[g]?).map (·.type) = some 25) : VarErr n W := by
  obtain ⟨a, s, hv, _⟩ := laid_sentinel (tp := 149) (te := 151) (ts := 9) h hg ht Tryd.underlying25 lay_row Tryd.underlying149 Tryd.underlying151 rfl rfl Tryd.underlying9 (by kernel_rfl) (by kernel_rfl)
  exact ⟨_, _, hv⟩

/-- strconv's two errors, and where they lie. -/
def ErrsAt (w : World) (base : Nat) : Prop := VarErr "strconv.ErrSyntax" w ∧ VarErr "strconv.ErrRange" w ∧ 5 < base ∧ 6 < base
theorem ErrsAt.low {w w' : World} {base : Nat} {S : List Nat} (h : ErrsAt w base) (ho : Only S w w') (hS : ∀ x ∈ S, base ≤ x) : ErrsAt w' base :=
  ⟨h.1.low (g := 5) ho (by kernel_rfl) (fun hx => by have := hS _ hx; have := h.2.2.1; omega), h.2.1.low (g := 6) ho (by kernel_rfl) (fun hx => by have := hS _ hx; have := h.2.2.2; omega), h.2.2⟩
theorem ErrsAt.of {w : World} (h1 : VarErr "strconv.ErrSyntax" w) (h2 : VarErr "strconv.ErrRange" w) : ErrsAt w w.heap.size := ⟨h1, h2, h1.lt (by kernel_rfl), h2.lt (by kernel_rfl)⟩

/-- The cells of a table. -/
def datumCells : DataW Unit → Array Value
  | .agg ps => (ps.map fun | .lit l => l.value | _ => undef).toArray
  | _ => #[]
/-- A variable set to hold such cells. -/
def setVar (w : World) (g : Nat) (cs : Array Value) : World := { w with heap := w.heap.modify g fun
  | .cells _ t frozen => .cells cs t frozen
  | o => o }

noncomputable def laidLow : Nat := (World.holding Tryd.prog default ⟨#[], #[], []⟩).heap.size
/-- The settled world, every listed variable laid. -/
noncomputable def laidAll (os : Os) : World :=
  let w0 := World.holding Tryd.prog os ⟨#[.cells #[.string ⟨#[105, 110, 118, 97, 108, 105, 100, 32, 115, 121, 110, 116, 97, 120]⟩] 151, .cells #[.string ⟨#[118, 97, 108, 117, 101, 32, 111, 117, 116, 32, 111, 102, 32, 114, 97, 110, 103, 101]⟩] 151], #[], []⟩
  let w0 := setVar w0 5 #[.iface 149 (.pointer (some ⟨laidLow, 0, none⟩))]
  let w0 := setVar w0 6 #[.iface 149 (.pointer (some ⟨laidLow + 1, 0, none⟩))]
  let w0 := setVar w0 2 (datumCells Rows.laid_internal_strconv_uint64pow10)
  let w0 := setVar w0 7 (datumCells Rows.laid_math_bits_deBruijn32tab)
  let w0 := setVar w0 8 (datumCells Rows.laid_math_bits_deBruijn64tab)
  let w0 := setVar w0 0 (datumCells Rows.laid_yardgang_trace_words)
  w0

end Go.Proofs.YtoofalchkedciaaDoor
