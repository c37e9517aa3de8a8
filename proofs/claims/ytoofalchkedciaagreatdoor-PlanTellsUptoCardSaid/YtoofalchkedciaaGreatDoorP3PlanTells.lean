/-
  What the listed variables of a tied card give a walk; a world in which all of them hold what the text lays.
  A world that meets all listed variables, those of unicode/utf8 too; what the bound of an Upto row gives of a text.
-/
import Derived.Test.YtoofalchkedciaaGreatDoorP1PlanTells
import Derived.Test.YtoofalchkedciaaGreatDoorP2PlanTells
import Derived.Test.YtoofalchkedciaaGreatDoorRows
import Derived.ChangeSame
import Derived.ChangeVars
import Derived.JoinedOf
import Derived.RowKit
import Derived.LaidLaws
import Derived.LaidHandle
import Derived.Stop.Joined
import Derived.Stop.LaidErr
import Derived.Deep.DeepHandedRow
import Derived.Lib.LaidTab
import Derived.Lib.ItoaMem
namespace Go.Proofs.YtoofalchkedciaaGreatDoor
open Go.ChangeShapes Go.WideShapes Go.RowKit

theorem lay_et : Tryz.prog.globalNamed "errors.errorType" = some 1 := by kernel_rfl
theorem lay_rt : (Tryz.prog.cutTypes.find? (·.1 == "internal/reflectlite.rtype")).map (·.2) = some 277 := by kernel_rfl
theorem lay_one : ((List.range Tryz.prog.types.size).filter fun t => Tryz.prog.rowNamed t [101, 114, 114, 111, 114]) = [27] := by kernel_rfl

theorem glob_of_handles {W : World} (h : handlesMet Tryz.prog [("errors.errorType", Rows.laid_errors_errorType)] W) : Glob W := by
  obtain ⟨name, u, ty, e1, e2, e3, e4, e5⟩ := h _ (List.mem_singleton.2 rfl)
  have en : name = [101, 114, 114, 111, 114] := (Option.some.inj e1).symm
  subst en
  obtain rfl := Option.some.inj (lay_rt.symm.trans e2)
  have hm : ty ∈ (List.range Tryz.prog.types.size).filter fun t => Tryz.prog.rowNamed t [101, 114, 114, 111, 114] := List.mem_filter.2 ⟨List.mem_range.2 e3, e4⟩
  rw [lay_one] at hm
  obtain rfl := List.mem_singleton.1 hm
  have hh : typeHandle Tryz.prog 27 = .pointer (some ⟨11, 27, none⟩) := by kernel_rfl
  rw [hh] at e5
  unfold Glob
  simpa using World.var?_cell lay_et e5 0

/-- A package-level variable that holds an error. -/
def VarErr (n : String) (w : World) : Prop := ∃ tp p, w.var? Tryz.prog n = some #[.iface tp p]

theorem var_only {w w' : World} {n : String} {cs : Array Value} (h : w.var? Tryz.prog n = some cs) (ho : Only [] w w') : w'.var? Tryz.prog n = some cs := by
  unfold World.var? at h ⊢
  cases hg : Tryz.prog.globalNamed n with
  | none => simp [hg] at h
  | some g =>
    simp only [hg, Option.bind_some] at h ⊢
    have hlt : g < w.heap.size := by
      rcases Nat.lt_or_ge g w.heap.size with h' | h'
      · exact h'
      · simp [Array.getElem?_eq_none h'] at h
    rw [ho.block g hlt (by simp)]
    exact h
theorem VarErr.low {n : String} {w w' : World} {S : List Nat} {g : Nat} (h : VarErr n w) (ho : Only S w w') (hg : Tryz.prog.globalNamed n = some g) (hS : g ∉ S) : VarErr n w' := by
  obtain ⟨tp, p, h⟩ := h
  refine ⟨tp, p, ?_⟩
  unfold World.var? at h ⊢
  simp only [hg, Option.bind_some] at h ⊢
  have hlt : g < w.heap.size := by
    rcases Nat.lt_or_ge g w.heap.size with h' | h'
    · exact h'
    · simp [Array.getElem?_eq_none h'] at h
  rw [ho.block g hlt hS]
  exact h
theorem VarErr.lt {n : String} {w : World} {g : Nat} (h : VarErr n w) (hg : Tryz.prog.globalNamed n = some g) : g < w.heap.size := by
  obtain ⟨tp, p, h⟩ := h
  unfold World.var? at h
  simp only [hg, Option.bind_some] at h
  rcases Nat.lt_or_ge g w.heap.size with h' | h'
  · exact h'
  · simp [Array.getElem?_eq_none h'] at h
theorem VarErr.only {n : String} {w w' : World} (h : VarErr n w) (ho : Only [] w w') : VarErr n w' := by
  obtain ⟨tp, p, h⟩ := h
  exact ⟨tp, p, var_only h ho⟩

theorem lay_star : "*errors.errorString" = "*" ++ "errors.errorString" := by decide
theorem lay_row (u : TypeId) (h : Tryz.prog.typeName? 3 u = some "*errors.errorString") : u = 355 :=
  typeName_ptr_named (nm := "errors.errorString") (by rw [← lay_star]; kernel_rfl) (by kernel_rfl) (by decide) u (by rw [← lay_star]; exact h)
theorem varErr_of {n : String} {text : List UInt8} {r : List (String × DataW Unit)} {W : World} {g : Nat} (h : laidMet Tryz.prog ((n, .iface "*errors.errorString" (.ptr (.agg [.lit (.string text)]))) :: r) W)
    (hg : Tryz.prog.globalNamed n = some g) (ht : (Tryz.prog.globals[g]?).map (·.type) = some 27) : VarErr n W := by
  obtain ⟨a, s, hv, _⟩ := laid_sentinel (tp := 355) (te := 357) (ts := 9) h hg ht Tryz.underlying27 lay_row Tryz.underlying355 Tryz.underlying357 rfl rfl Tryz.underlying9 (by kernel_rfl) (by kernel_rfl)
  exact ⟨_, _, hv⟩

/-- strconv's two errors, and where they lie. -/
def ErrsAt (w : World) (base : Nat) : Prop := VarErr "strconv.ErrSyntax" w ∧ VarErr "strconv.ErrRange" w ∧ 7 < base ∧ 8 < base
theorem ErrsAt.low {w w' : World} {base : Nat} {S : List Nat} (h : ErrsAt w base) (ho : Only S w w') (hS : ∀ x ∈ S, base ≤ x) : ErrsAt w' base :=
  ⟨h.1.low (g := 7) ho (by kernel_rfl) (fun hx => by have := hS _ hx; have := h.2.2.1; omega), h.2.1.low (g := 8) ho (by kernel_rfl) (fun hx => by have := hS _ hx; have := h.2.2.2; omega), h.2.2⟩
theorem ErrsAt.of {w : World} (h1 : VarErr "strconv.ErrSyntax" w) (h2 : VarErr "strconv.ErrRange" w) : ErrsAt w w.heap.size := ⟨h1, h2, h1.lt (by kernel_rfl), h2.lt (by kernel_rfl)⟩

/-- The cells of a table. -/
def datumCells : DataW Unit → Array Value
  | .agg ps => (ps.map fun | .lit l => l.value | _ => undef).toArray
  | _ => #[]
/-- A variable set to hold such cells. -/
def setVar (w : World) (g : Nat) (cs : Array Value) : World := { w with heap := w.heap.modify g fun
  | .cells _ t frozen => .cells cs t frozen
  | o => o }

noncomputable def laidLow : Nat := (World.holding Tryz.prog default ⟨#[], #[], []⟩).heap.size
/-- The settled world, every listed variable laid. -/
noncomputable def laidAll (os : Os) : World :=
  let w0 := World.holding Tryz.prog os ⟨#[.cells #[.string ⟨#[105, 110, 118, 97, 108, 105, 100, 32, 115, 121, 110, 116, 97, 120]⟩] 357, .cells #[.string ⟨#[118, 97, 108, 117, 101, 32, 111, 117, 116, 32, 111, 102, 32, 114, 97, 110, 103, 101]⟩] 357], #[], []⟩
  let w0 := setVar w0 1 #[.iface 277 (.agg #[.pointer (some ⟨11, 27, none⟩)])]
  let w0 := setVar w0 7 #[.iface 355 (.pointer (some ⟨laidLow, 0, none⟩))]
  let w0 := setVar w0 8 #[.iface 355 (.pointer (some ⟨laidLow + 1, 0, none⟩))]
  let w0 := setVar w0 3 (datumCells Rows.laid_internal_strconv_uint64pow10)
  let w0 := setVar w0 9 (datumCells Rows.laid_math_bits_deBruijn32tab)
  let w0 := setVar w0 10 (datumCells Rows.laid_math_bits_deBruijn64tab)
  let w0 := setVar w0 0 (datumCells Rows.laid_yardgang_trace_words)
  w0

end Go.Proofs.YtoofalchkedciaaGreatDoor

namespace Go.Proofs.YtoofalchkedciaaGreatDoor
open Go.RowKit

/-- The cells of a table of structs. -/
def datumCells2 : DataW Unit → Array Value
  | .agg ps => (ps.flatMap fun | .agg qs => qs.map (fun | .lit l => l.value | _ => undef) | _ => []).toArray
  | _ => #[]
noncomputable def laidUp (os : Os) : World :=
  setVar (setVar (laidAll os) 5 (datumCells Rows.laid_unicode_utf8_first)) 6 (datumCells2 Rows.laid_unicode_utf8_acceptRanges)

theorem tab_of {r : List (String × DataW Unit)} {W : World} (h : laidMet Tryz.prog (("internal/strconv.uint64pow10", Rows.laid_internal_strconv_uint64pow10) :: r) W) : Lib.TabIs Tryz.prog W "internal/strconv.uint64pow10" .u64 Lib.pow10Tab :=
  Lib.tabIs_of_head (g := 3) (e := 291) (n := 20) (by kernel_rfl) (by kernel_rfl) Tryz.underlying309 Tryz.underlying291 (by kernel_rfl) (by kernel_rfl) h

theorem bulk_part {H : Type} {d : DataW H} {l : List (DataW H)} (h : d ∈ l) : Rows.uptoBulk d ≤ Rows.uptoBulkAll l := by
  induction l with
  | nil => cases h
  | cons x r ih =>
    simp only [Rows.uptoBulkAll]
    rcases List.mem_cons.1 h with e | e
    · subst e; omega
    · have := ih e; omega
theorem bulk_text {H : Type} {l : List (DataW H)} {b : List UInt8} (h : Rows.uptoSmall H l = true) (hb : DataW.lit (.string b) ∈ l) : b.length ≤ 1048576 := by
  have h1 := bulk_part hb
  have h2 : Rows.uptoBulkAll l ≤ 1048576 := of_decide_eq_true h
  simp only [Rows.uptoBulk] at h1
  omega

end Go.Proofs.YtoofalchkedciaaGreatDoor
