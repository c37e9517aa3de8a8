/-
  What a law's walk is told of the arguments that came in.
  What the listed variables of a tied card give a walk; a world in which all of them hold what the text lays.
  A world that meets all listed variables, those of unicode/utf8 too; what the bound of an Upto row gives of a text.
-/
import Derived.Test.YtoofalchkedciaaDoorP1TraceBack
import Derived.Test.YtoofalchkedciaaDoorRows
import Derived.ProofKit
import Derived.OpenShut
import Derived.ShutString
import Derived.ChangeOld
import Derived.ChangeSame
import Derived.ChangeVars
import Derived.JoinedOf
import Derived.RowKit
import Derived.LaidLaws
import Derived.LaidHandle
import Derived.Stop.Joined
import Derived.Stop.LaidErr
import Derived.Deep.DeepHandedRow
import Derived.Lib.LaidTab
import Derived.Lib.ItoaMem
namespace Go.Proofs.YtoofalchkedciaaDoor
open Go.ChangeShapes Go.WideShapes Go.ChangeAt Go.RowKit

theorem own_knob : ownKnob Tryd.prog.godebug = none := by kernel_rfl
theorem laid_out : laidOutB Tryd.prog = true := by kernel_rfl

/-- A slice of integers that came in: it is nil; or it leads to a row of 'cap' cells, the numbers 'zs' (the first 'len' are its elements), each fitting its kind. -/
def IsRow (k : IntKind) (w : World) (a : Option Addr) (len cap : Nat) (zs : List Int) : Prop :=
  (a = none ∧ len = 0 ∧ cap = 0 ∧ zs = []) ∨
  ∃ x, a = some x ∧ len ≤ cap ∧ cap ≤ maxLen ∧ zs.length = cap ∧ (∀ i, i < zs.length → w.cell? (x.add i) = some (.int k (zs.getD i 0))) ∧ ∀ n ∈ zs, (Lit.int k n).wf = true

/-- The value v is a slice that came in, with the numbers l. -/
def InInts (w : World) (v : Value) (l : List Int) : Prop :=
  (∀ n ∈ l, (Lit.int .i64 n).wf = true) ∧
  ((l = [] ∧ ∃ a cap, v = .slice a 0 cap ∧ cap ≤ maxLen ∧ (a = none → cap = 0)) ∨
   (0 < l.length ∧ ∃ b off cap, v = .slice (some ⟨b, off, none⟩) l.length cap ∧ l.length ≤ cap ∧ cap ≤ maxLen ∧ ∀ i, i < l.length → w.cell? ⟨b, off + i, none⟩ = some (.int .i64 (nth l i))))

theorem inInts_of_row {w : World} {a : Option Addr} {len cap : Nat} {zs : List Int} (h : IsRow .i64 w a len cap zs) : InInts w (.slice a len cap) (zs.take len) := by
  rcases h with ⟨rfl, rfl, rfl, rfl⟩ | ⟨x, rfl, hl, hm, hz, hc, hw⟩
  · exact ⟨by simp, .inl ⟨rfl, _, _, rfl, by unfold maxLen; omega, fun _ => rfl⟩⟩
  · have hlen : (zs.take len).length = len := by simp; omega
    refine ⟨fun n hn => hw n (List.mem_of_mem_take hn), ?_⟩
    by_cases h0 : len = 0
    · subst h0
      exact .inl ⟨by simp, _, _, rfl, hm, fun h => by cases h⟩
    · refine .inr ⟨by omega, ?_⟩
      have hs : x.spot = none := by
        have h1 := hc 0 (by omega)
        unfold World.cell? at h1
        split at h1
        · rename_i c _ _ _
          cases hsp : x.spot with
          | none => rfl
          | some y => simp [Addr.add, hsp] at h1
        · cases h1
      obtain ⟨b, off, spot⟩ := x
      obtain rfl : spot = none := hs
      refine ⟨b, off, cap, by rw [hlen], by omega, hm, fun i hi => ?_⟩
      have h1 := hc i (by omega)
      have h2 : nth (zs.take len) i = zs.getD i 0 := by
        rw [hlen] at hi
        simp [nth, hi]
      rw [h2]
      have e : ({ block := b, off := off, spot := none } : Addr).add i = ⟨b, off + i, none⟩ := by
        unfold Addr.add
        split
        · rename_i h; subst h; rfl
        · rfl
      rw [← e]
      exact h1

/-- What came in stays while nothing that was there changes. -/
theorem InInts.below {w w' : World} {v : Value} {l : List Int} (h : InInts w v l) (hb : Below w.heap.size w w') : InInts w' v l := by
  obtain ⟨h1, h2⟩ := h
  refine ⟨h1, ?_⟩
  rcases h2 with h2 | ⟨h3, b, off, cap, hv, hl, hm, hc⟩
  · exact .inl h2
  · refine .inr ⟨h3, b, off, cap, hv, hl, hm, fun i hi => ?_⟩
    rw [hb.cell (p := ⟨b, off + i, none⟩) (cell_lt (hc i hi))]
    exact hc i hi

theorem InInts.only {w w' : World} {v : Value} {l : List Int} (h : InInts w v l) (ho : Only [] w w') : InInts w' v l :=
  h.below (ho.below (Nat.le_refl _) (by simp))

end Go.Proofs.YtoofalchkedciaaDoor

namespace Go.Proofs.YtoofalchkedciaaDoor
open Go.ChangeShapes Go.WideShapes Go.RowKit


/-- A package-level variable that holds an error. -/
def VarErr (n : String) (w : World) : Prop := ∃ tp p, w.var? Tryd.prog n = some #[.iface tp p]

theorem var_only {w w' : World} {n : String} {cs : Array Value} (h : w.var? Tryd.prog n = some cs) (ho : Only [] w w') : w'.var? Tryd.prog n = some cs := by
  unfold World.var? at h ⊢
  cases hg : Tryd.prog.globalNamed n with
  | none => simp [hg] at h
  | some g =>
    simp only [hg, Option.bind_some] at h ⊢
    have hlt : g < w.heap.size := by
      rcases Nat.lt_or_ge g w.heap.size with h' | h'
      · exact h'
      · simp [Array.getElem?_eq_none h'] at h
    rw [ho.block g hlt (by simp)]
    exact h
theorem VarErr.low {n : String} {w w' : World} {S : List Nat} {g : Nat} (h : VarErr n w) (ho : Only S w w') (hg : Tryd.prog.globalNamed n = some g) (hS : g ∉ S) : VarErr n w' := by
  obtain ⟨tp, p, h⟩ := h
  refine ⟨tp, p, ?_⟩
  unfold World.var? at h ⊢
  simp only [hg, Option.bind_some] at h ⊢
  have hlt : g < w.heap.size := by
    rcases Nat.lt_or_ge g w.heap.size with h' | h'
    · exact h'
    · simp [Array.getElem?_eq_none h'] at h
  rw [ho.block g hlt hS]
  exact h
theorem VarErr.lt {n : String} {w : World} {g : Nat} (h : VarErr n w) (hg : Tryd.prog.globalNamed n = some g) : g < w.heap.size := by
  obtain ⟨tp, p, h⟩ := h
  unfold World.var? at h
  simp only [hg, Option.bind_some] at h
  rcases Nat.lt_or_ge g w.heap.size with h' | h'
  · exact h'
  · simp [Array.getElem?_eq_none h'] at h
theorem VarErr.only {n : String} {w w' : World} (h : VarErr n w) (ho : Only [] w w') : VarErr n w' := by
  obtain ⟨tp, p, h⟩ := h
  exact ⟨tp, p, var_only h ho⟩

theorem lay_star : "*errors.errorString" = "*" ++ "errors.errorString" := by decide
theorem lay_row (u : TypeId) (h : Tryd.prog.typeName? 3 u = some "*errors.errorString") : u = 149 :=
  typeName_ptr_named (nm := "errors.errorString") (by rw [← lay_star]; kernel_rfl) (by kernel_rfl) (by decide) u (by rw [← lay_star]; exact h)
theorem varErr_of {n : String} {text : List UInt8} {r : List (String × DataW Unit)} {W : World} {g : Nat} (h : laidMet Tryd.prog ((n, .iface "*errors.errorString" (.ptr (.agg [.lit (.string text)]))) :: r) W)
    (hg : Tryd.prog.globalNamed n = some g) (ht : (Tryd.prog.globals[g]?).map (·.type) = some 25) : VarErr n W := by
  obtain ⟨a, s, hv, _⟩ := laid_sentinel (tp := 149) (te := 151) (ts := 9) h hg ht Tryd.underlying25 lay_row Tryd.underlying149 Tryd.underlying151 rfl rfl Tryd.underlying9 (by kernel_rfl) (by kernel_rfl)
  exact ⟨_, _, hv⟩

/-- strconv's two errors, and where they lie. -/
def ErrsAt (w : World) (base : Nat) : Prop := VarErr "strconv.ErrSyntax" w ∧ VarErr "strconv.ErrRange" w ∧ 5 < base ∧ 6 < base
theorem ErrsAt.low {w w' : World} {base : Nat} {S : List Nat} (h : ErrsAt w base) (ho : Only S w w') (hS : ∀ x ∈ S, base ≤ x) : ErrsAt w' base :=
  ⟨h.1.low (g := 5) ho (by kernel_rfl) (fun hx => by have := hS _ hx; have := h.2.2.1; omega), h.2.1.low (g := 6) ho (by kernel_rfl) (fun hx => by have := hS _ hx; have := h.2.2.2; omega), h.2.2⟩
theorem ErrsAt.of {w : World} (h1 : VarErr "strconv.ErrSyntax" w) (h2 : VarErr "strconv.ErrRange" w) : ErrsAt w w.heap.size := ⟨h1, h2, h1.lt (by kernel_rfl), h2.lt (by kernel_rfl)⟩

/-- The cells of a table. -/
def datumCells : DataW Unit → Array Value
  | .agg ps => (ps.map fun | .lit l => l.value | _ => undef).toArray
  | _ => #[]
/-- A variable set to hold such cells. -/
def setVar (w : World) (g : Nat) (cs : Array Value) : World := { w with heap := w.heap.modify g fun
  | .cells _ t frozen => .cells cs t frozen
  | o => o }

noncomputable def laidLow : Nat := (World.holding Tryd.prog default ⟨#[], #[], []⟩).heap.size
/-- The settled world, every listed variable laid. -/
noncomputable def laidAll (os : Os) : World :=
  let w0 := World.holding Tryd.prog os ⟨#[.cells #[.string ⟨#[105, 110, 118, 97, 108, 105, 100, 32, 115, 121, 110, 116, 97, 120]⟩] 151, .cells #[.string ⟨#[118, 97, 108, 117, 101, 32, 111, 117, 116, 32, 111, 102, 32, 114, 97, 110, 103, 101]⟩] 151], #[], []⟩
  let w0 := setVar w0 5 #[.iface 149 (.pointer (some ⟨laidLow, 0, none⟩))]
  let w0 := setVar w0 6 #[.iface 149 (.pointer (some ⟨laidLow + 1, 0, none⟩))]
  let w0 := setVar w0 2 (datumCells Rows.laid_internal_strconv_uint64pow10)
  let w0 := setVar w0 7 (datumCells Rows.laid_math_bits_deBruijn32tab)
  let w0 := setVar w0 8 (datumCells Rows.laid_math_bits_deBruijn64tab)
  let w0 := setVar w0 0 (datumCells Rows.laid_yardgang_trace_words)
  w0

end Go.Proofs.YtoofalchkedciaaDoor

namespace Go.Proofs.YtoofalchkedciaaDoor
open Go.RowKit

/-- The cells of a table of structs. -/
def datumCells2 : DataW Unit → Array Value
  | .agg ps => (ps.flatMap fun | .agg qs => qs.map (fun | .lit l => l.value | _ => undef) | _ => []).toArray
  | _ => #[]
noncomputable def laidUp (os : Os) : World :=
  setVar (setVar (laidAll os) 3 (datumCells Rows.laid_unicode_utf8_first)) 4 (datumCells2 Rows.laid_unicode_utf8_acceptRanges)

theorem tab_of {r : List (String × DataW Unit)} {W : World} (h : laidMet Tryd.prog (("internal/strconv.uint64pow10", Rows.laid_internal_strconv_uint64pow10) :: r) W) : Lib.TabIs Tryd.prog W "internal/strconv.uint64pow10" .u64 Lib.pow10Tab :=
  Lib.tabIs_of_head (g := 2) (e := 116) (n := 20) (by kernel_rfl) (by kernel_rfl) Tryd.underlying131 Tryd.underlying116 (by kernel_rfl) (by kernel_rfl) h

theorem bulk_part {H : Type} {d : DataW H} {l : List (DataW H)} (h : d ∈ l) : Rows.uptoBulk d ≤ Rows.uptoBulkAll l := by
  induction l with
  | nil => cases h
  | cons x r ih =>
    simp only [Rows.uptoBulkAll]
    rcases List.mem_cons.1 h with e | e
    · subst e; omega
    · have := ih e; omega
theorem bulk_text {H : Type} {l : List (DataW H)} {b : List UInt8} (h : Rows.uptoSmall H l = true) (hb : DataW.lit (.string b) ∈ l) : b.length ≤ 1048576 := by
  have h1 := bulk_part hb
  have h2 : Rows.uptoBulkAll l ≤ 1048576 := of_decide_eq_true h
  simp only [Rows.uptoBulk] at h1
  omega

end Go.Proofs.YtoofalchkedciaaDoor
