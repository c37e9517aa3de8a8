/-
  No cell of these rows narrows 'for every input' (looked for: loops, veiled, ifaces, maps, wideKeys, modest, calm, conditions, laid).
  DERIVED. THE GIVEN ROWS OF THIS SEAT. 3 by the template 'for every input the law returns true; each argument reads behind the call as it read before'; 0 by the template 'total and deterministic' (their statements: YtmopbimineoogaaTotals.lean).
  GIVEN WITH THE SEED: the statements are not yours to turn. If you find one false, say at which input.
  Laid BY PROGRAM, IN A SANDBOX (cutbox-rows.mjs): the forced cells as the released guide's own fill.sh prints them over the translation 5e410627d9568269… (all of the seat's roots in one cut). By AI agents, Wed Nov 11 2026. No macro, syntax, notation, axiom, sorry.
-/
import Derived.Test.YtmopbimineoogaaChecked
import GoSem.Claim
import GoSem.ClaimJoined
import GoSem.ClaimMapViews
import Derived.JoinedTies
import Derived.KernelRfl
namespace Go.Proofs.Ytmopbimineoogaa
/- THE CELL 'sum', in the pinned program and in every row, IS THE sha256 OF THE DUMP (.gsa) THAT YtmopbimineoogaaProg.lean LOADS. Nothing in Lean hashes anything: it is a label: what it is worth is what the hold of that sum in a sandbox is worth. -/
noncomputable def Try.pinned : Pinned := { name := "ytmopbimineoogaa", sum := "5e410627d9568269c56c874ae596311c01c43168dc0c64d4ead5648786881293", checked := Try.checked }
namespace Rows
def none {H : Type} : Left H := { results := [], args := [] }

/-- 'yardlaw2.GreedyBound': WHATEVER THE INPUT: true; the input reads as it did. -/
def greedyBoundSpec : ChangeSpec := { name := "greedyBound", fn := fun _ => fun
  | [d1, d2] => { results := [.lit (.bool true)], args := [d1, d2] }
  | _ => none }
def greedyBoundRow : OpenClaim := { program := "ytmopbimineoogaa", sum := "5e410627d9568269c56c874ae596311c01c43168dc0c64d4ead5648786881293", func := "yardgang/yardlaw2.GreedyBound", spec := "greedyBound", unfollowed := true, recurses := true, plainKeys := false, apart := false }
def GreedyBoundSaid : Prop := greedyBoundRow.holds Try.pinned (OpenSpec.ofChange greedyBoundSpec)

/-- ITS FALSE NEIGHBOUR: 'it returns false'. Refute it at one input. -/
def greedyBoundWrong : ChangeSpec := { name := "greedyBound", fn := fun _ => fun
  | [d1, d2] => { results := [.lit (.bool false)], args := [d1, d2] }
  | _ => none }
def GreedyBoundWrongFalsely : Prop := greedyBoundRow.holds Try.pinned (OpenSpec.ofChange greedyBoundWrong)

/-- 'yardlaw4.ListAnomaly': WHATEVER THE INPUT: true; the input reads as it did. -/
def listAnomalySpec : ChangeSpec := { name := "listAnomaly", fn := fun _ => fun
  | [d1, d2, d3] => { results := [.lit (.bool true)], args := [d1, d2, d3] }
  | _ => none }
def listAnomalyRow : OpenClaim := { program := "ytmopbimineoogaa", sum := "5e410627d9568269c56c874ae596311c01c43168dc0c64d4ead5648786881293", func := "yardgang/yardlaw4.ListAnomaly", spec := "listAnomaly", unfollowed := true, recurses := true, plainKeys := false, apart := false }
def ListAnomalySaid : Prop := listAnomalyRow.holds Try.pinned (OpenSpec.ofChange listAnomalySpec)

/-- ITS FALSE NEIGHBOUR: 'it returns false'. Refute it at one input. -/
def listAnomalyWrong : ChangeSpec := { name := "listAnomaly", fn := fun _ => fun
  | [d1, d2, d3] => { results := [.lit (.bool false)], args := [d1, d2, d3] }
  | _ => none }
def ListAnomalyWrongFalsely : Prop := listAnomalyRow.holds Try.pinned (OpenSpec.ofChange listAnomalyWrong)

/-- 'yardlaw2.ListBound': WHATEVER THE INPUT: true; the input reads as it did. -/
def listBoundSpec : ChangeSpec := { name := "listBound", fn := fun _ => fun
  | [d1, d2, d3] => { results := [.lit (.bool true)], args := [d1, d2, d3] }
  | _ => none }
def listBoundRow : OpenClaim := { program := "ytmopbimineoogaa", sum := "5e410627d9568269c56c874ae596311c01c43168dc0c64d4ead5648786881293", func := "yardgang/yardlaw2.ListBound", spec := "listBound", unfollowed := true, recurses := true, plainKeys := false, apart := false }
def ListBoundSaid : Prop := listBoundRow.holds Try.pinned (OpenSpec.ofChange listBoundSpec)

/-- ITS FALSE NEIGHBOUR: 'it returns false'. Refute it at one input. -/
def listBoundWrong : ChangeSpec := { name := "listBound", fn := fun _ => fun
  | [d1, d2, d3] => { results := [.lit (.bool false)], args := [d1, d2, d3] }
  | _ => none }
def ListBoundWrongFalsely : Prop := listBoundRow.holds Try.pinned (OpenSpec.ofChange listBoundWrong)

/- THE SECOND FORM. 'bulk': how many values and letters a reading holds, each counted each time it is reached (what is shared counts as often as it is met; a slice's spare places count too). A statement '..UptoSaid' is the law's where the arguments, and the package variables that the reading takes, are together of bulk at most 1048576: NARROWER than '..Said'. Prove '..Said' where nothing that the law and all that it calls make is longer than what came in: it says more and counts as full. Else prove '..UptoSaid'. A law counts once. -/
mutual
def uptoBulk {H : Type} : DataW H → Nat
  | .lit (.string bytes) => bytes.length + 1
  | .lit _ => 1
  | .nil => 1
  | .ptr d => uptoBulk d + 1
  | .slice elems spare => uptoBulkAll elems + uptoBulkAll spare + 1
  | .agg parts => uptoBulkAll parts + 1
  | .iface _ d => uptoBulk d + 1
  | .map entries => uptoBulkEntries entries + 1
  | .held _ => 1
def uptoBulkAll {H : Type} : List (DataW H) → Nat
  | [] => 0
  | d :: r => uptoBulk d + uptoBulkAll r
def uptoBulkEntries {H : Type} : List (Lit × DataW H) → Nat
  | [] => 0
  | x :: r => uptoBulkEntry x + uptoBulkEntries r
def uptoBulkEntry {H : Type} : Lit × DataW H → Nat
  | (.string bytes, d) => bytes.length + uptoBulk d + 1
  | (_, d) => uptoBulk d + 1
 end
def uptoSmall : (H : Type) → List (DataW H) → Bool := fun _ ds => decide (uptoBulkAll ds ≤ 1048576)
def OpenSpec.upto (s : _root_.Go.ChangeSpec) : _root_.Go.OpenSpec := { _root_.Go.OpenSpec.ofChange s with cond := some uptoSmall }

/-- 'yardlaw2.GreedyBound', WHERE WHAT IT READS IS OF BULK AT MOST 1048576: true; the input reads as it did. -/
def greedyBoundUptoRow : OpenClaim := { program := "ytmopbimineoogaa", sum := "5e410627d9568269c56c874ae596311c01c43168dc0c64d4ead5648786881293", func := "yardgang/yardlaw2.GreedyBound", spec := "greedyBound", unfollowed := true, recurses := true, plainKeys := false, apart := false, narrowed := true }
def GreedyBoundUptoSaid : Prop := greedyBoundUptoRow.holds Try.pinned (OpenSpec.upto greedyBoundSpec)

/-- 'yardlaw4.ListAnomaly', WHERE WHAT IT READS IS OF BULK AT MOST 1048576: true; the input reads as it did. -/
def listAnomalyUptoRow : OpenClaim := { program := "ytmopbimineoogaa", sum := "5e410627d9568269c56c874ae596311c01c43168dc0c64d4ead5648786881293", func := "yardgang/yardlaw4.ListAnomaly", spec := "listAnomaly", unfollowed := true, recurses := true, plainKeys := false, apart := false, narrowed := true }
def ListAnomalyUptoSaid : Prop := listAnomalyUptoRow.holds Try.pinned (OpenSpec.upto listAnomalySpec)

/-- 'yardlaw2.ListBound', WHERE WHAT IT READS IS OF BULK AT MOST 1048576: true; the input reads as it did. -/
def listBoundUptoRow : OpenClaim := { program := "ytmopbimineoogaa", sum := "5e410627d9568269c56c874ae596311c01c43168dc0c64d4ead5648786881293", func := "yardgang/yardlaw2.ListBound", spec := "listBound", unfollowed := true, recurses := true, plainKeys := false, apart := false, narrowed := true }
def ListBoundUptoSaid : Prop := listBoundUptoRow.holds Try.pinned (OpenSpec.upto listBoundSpec)

end Rows
end Go.Proofs.Ytmopbimineoogaa
