/-
  A world that meets all listed variables, those of unicode/utf8 too; what the bound of an Upto row gives of a text.
-/
import Derived.Test.YtoofalchkedciaaDoorLaid
import Derived.Deep.DeepHandedRow
import Derived.Lib.LaidTab
import Derived.Lib.ItoaMem
namespace Go.Proofs.YtoofalchkedciaaDoor
open Go.RowKit

/-- The cells of a table of structs. -/
def datumCells2 : DataW Unit → Array Value
  | .agg ps => (ps.flatMap fun | .agg qs => qs.map (fun | .lit l => l.value | _ => undef) | _ => []).toArray
  | _ => #[]
noncomputable def laidUp (os : Os) : World :=
  setVar (setVar (laidAll os) 3 (datumCells Rows.laid_unicode_utf8_first)) 4 (datumCells2 Rows.laid_unicode_utf8_acceptRanges)

theorem tab_of {r : List (String × DataW Unit)} {W : World} (h : laidMet Tryd.prog (("internal/strconv.uint64pow10", Rows.laid_internal_strconv_uint64pow10) :: r) W) : Lib.TabIs Tryd.prog W "internal/strconv.uint64pow10" .u64 Lib.pow10Tab :=
  Lib.tabIs_of_head (g := 2) (e := 116) (n := 20) (by kernel_rfl) (by kernel_rfl) Tryd.underlying131 Tryd.underlying116 (by kernel_rfl) (by kernel_rfl) h

theorem bulk_part {H : Type} {d : DataW H} {l : List (DataW H)} (h : d ∈ l) : Rows.uptoBulk d ≤ Rows.uptoBulkAll l := by
  induction l with
  | nil => cases h
  | cons x r ih =>
    simp only [Rows.uptoBulkAll]
    rcases List.mem_cons.1 h with e | e
    · subst e; omega
    · have := ih e; omega
theorem bulk_text {H : Type} {l : List (DataW H)} {b : List UInt8} (h : Rows.uptoSmall H l = true) (hb : DataW.lit (.string b) ∈ l) : b.length ≤ 1048576 := by
  have h1 := bulk_part hb
  have h2 : Rows.uptoBulkAll l ≤ 1048576 := of_decide_eq_true h
  simp only [Rows.uptoBulk] at h1
  omega

end Go.Proofs.YtoofalchkedciaaDoor
