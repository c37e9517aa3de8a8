/-
  No cell of these rows narrows 'for every input' (looked for: loops, veiled, ifaces, maps, wideKeys, modest, calm, conditions, laid).
  DERIVED. THE GIVEN ROWS OF THIS SEAT. 2 by the template 'for every input the law returns true; each argument reads behind the call as it read before'; 0 by the template 'total and deterministic' (their statements: YtocpmncedlenbaaTotals.lean).
  GIVEN WITH THE SEED: the statements are not yours to turn. If you find one false, say at which input.
  Laid BY PROGRAM, IN A SANDBOX (cutbox-rows.mjs): the forced cells as the released guide's own fill.sh prints them over the translation d07643fbdd89ecb6… (all of the seat's roots in one cut). By AI agents, Wed Nov 11 2026. No macro, syntax, notation, axiom, sorry.
-/
import Derived.Test.YtocpmncedlenbaaChecked
import GoSem.Claim
import GoSem.ClaimJoined
import GoSem.ClaimMapViews
import Derived.JoinedTies
import Derived.KernelRfl
namespace Go.Proofs.Ytocpmncedlenbaa
/- THE CELL 'sum', in the pinned program and in every row, IS THE sha256 OF THE DUMP (.gsa) THAT YtocpmncedlenbaaProg.lean LOADS. Nothing in Lean hashes anything: it is a label: what it is worth is what the hold of that sum in a sandbox is worth. -/
noncomputable def Try.pinned : Pinned := { name := "ytocpmncedlenbaa", sum := "d07643fbdd89ecb6a53471d3537ddf0141243891df35ad93e4085e3008af9ce0", checked := Try.checked }
namespace Rows
def none {H : Type} : Left H := { results := [], args := [] }

/-- 'yardlaw4.GangShares': WHATEVER THE INPUT: true; the input reads as it did. -/
def gangSharesSpec : ChangeSpec := { name := "gangShares", fn := fun _ => fun
  | [d] => { results := [.lit (.bool true)], args := [d] }
  | _ => none }
def gangSharesRow : OpenClaim := { program := "ytocpmncedlenbaa", sum := "d07643fbdd89ecb6a53471d3537ddf0141243891df35ad93e4085e3008af9ce0", func := "yardgang/yardlaw4.GangShares", spec := "gangShares", unfollowed := true, recurses := true, apart := false }
def GangSharesSaid : Prop := gangSharesRow.holds Try.pinned (OpenSpec.ofChange gangSharesSpec)

/-- ITS FALSE NEIGHBOUR: 'it returns false'. Refute it at one input. -/
def gangSharesWrong : ChangeSpec := { name := "gangShares", fn := fun _ => fun
  | [d] => { results := [.lit (.bool false)], args := [d] }
  | _ => none }
def GangSharesWrongFalsely : Prop := gangSharesRow.holds Try.pinned (OpenSpec.ofChange gangSharesWrong)

/-- 'yardlaw2.GangHolds': WHATEVER THE INPUT: true; the input reads as it did. -/
def gangHoldsSpec : ChangeSpec := { name := "gangHolds", fn := fun _ => fun
  | [d1, d2, d3, d4] => { results := [.lit (.bool true)], args := [d1, d2, d3, d4] }
  | _ => none }
def gangHoldsRow : OpenClaim := { program := "ytocpmncedlenbaa", sum := "d07643fbdd89ecb6a53471d3537ddf0141243891df35ad93e4085e3008af9ce0", func := "yardgang/yardlaw2.GangHolds", spec := "gangHolds", unfollowed := true, recurses := true, apart := false }
def GangHoldsSaid : Prop := gangHoldsRow.holds Try.pinned (OpenSpec.ofChange gangHoldsSpec)

/-- ITS FALSE NEIGHBOUR: 'it returns false'. Refute it at one input. -/
def gangHoldsWrong : ChangeSpec := { name := "gangHolds", fn := fun _ => fun
  | [d1, d2, d3, d4] => { results := [.lit (.bool false)], args := [d1, d2, d3, d4] }
  | _ => none }
def GangHoldsWrongFalsely : Prop := gangHoldsRow.holds Try.pinned (OpenSpec.ofChange gangHoldsWrong)

/- THE SECOND FORM. 'bulk': how many values and letters a reading holds, each counted each time it is reached (what is shared counts as often as it is met; a slice's spare places count too). A statement '..UptoSaid' is the law's where the arguments, and the package variables that the reading takes, are together of bulk at most 1048576: NARROWER than '..Said'. Prove '..Said' where nothing that the law and all that it calls make is longer than what came in: it says more and counts as full. Else prove '..UptoSaid'. A law counts once. -/
mutual
def uptoBulk {H : Type} : DataW H → Nat
  | .lit (.string bytes) => bytes.length + 1
  | .lit _ => 1
  | .nil => 1
  | .ptr d => uptoBulk d + 1
  | .slice elems spare => uptoBulkAll elems + uptoBulkAll spare + 1
  | .agg parts => uptoBulkAll parts + 1
  | .iface _ d => uptoBulk d + 1
  | .map entries => uptoBulkEntries entries + 1
  | .held _ => 1
def uptoBulkAll {H : Type} : List (DataW H) → Nat
  | [] => 0
  | d :: r => uptoBulk d + uptoBulkAll r
def uptoBulkEntries {H : Type} : List (Lit × DataW H) → Nat
  | [] => 0
  | x :: r => uptoBulkEntry x + uptoBulkEntries r
def uptoBulkEntry {H : Type} : Lit × DataW H → Nat
  | (.string bytes, d) => bytes.length + uptoBulk d + 1
  | (_, d) => uptoBulk d + 1
 end
def uptoSmall : (H : Type) → List (DataW H) → Bool := fun _ ds => decide (uptoBulkAll ds ≤ 1048576)
def OpenSpec.upto (s : _root_.Go.ChangeSpec) : _root_.Go.OpenSpec := { _root_.Go.OpenSpec.ofChange s with cond := some uptoSmall }

/-- 'yardlaw4.GangShares', WHERE WHAT IT READS IS OF BULK AT MOST 1048576: true; the input reads as it did. -/
def gangSharesUptoRow : OpenClaim := { program := "ytocpmncedlenbaa", sum := "d07643fbdd89ecb6a53471d3537ddf0141243891df35ad93e4085e3008af9ce0", func := "yardgang/yardlaw4.GangShares", spec := "gangShares", unfollowed := true, recurses := true, apart := false, narrowed := true }
def GangSharesUptoSaid : Prop := gangSharesUptoRow.holds Try.pinned (OpenSpec.upto gangSharesSpec)

/-- 'yardlaw2.GangHolds', WHERE WHAT IT READS IS OF BULK AT MOST 1048576: true; the input reads as it did. -/
def gangHoldsUptoRow : OpenClaim := { program := "ytocpmncedlenbaa", sum := "d07643fbdd89ecb6a53471d3537ddf0141243891df35ad93e4085e3008af9ce0", func := "yardgang/yardlaw2.GangHolds", spec := "gangHolds", unfollowed := true, recurses := true, apart := false, narrowed := true }
def GangHoldsUptoSaid : Prop := gangHoldsUptoRow.holds Try.pinned (OpenSpec.upto gangHoldsSpec)

end Rows
end Go.Proofs.Ytocpmncedlenbaa
