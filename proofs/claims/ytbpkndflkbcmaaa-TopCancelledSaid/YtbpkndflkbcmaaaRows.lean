/-
  No cell of these rows narrows 'for every input' (looked for: loops, veiled, ifaces, maps, wideKeys, modest, calm, conditions, laid).
  DERIVED. THE GIVEN ROWS OF THIS SEAT. 12 by the template 'for every input the law returns true; each argument reads behind the call as it read before'; 0 by the template 'total and deterministic' (their statements: YtbpkndflkbcmaaaTotals.lean).
  GIVEN WITH THE SEED: the statements are not yours to turn. If you find one false, say at which input.
  Laid BY PROGRAM, IN A SANDBOX (cutbox-rows.mjs): the forced cells as the released guide's own fill.sh prints them over the translation 3dd86b5b45f0b216… (all of the seat's roots in one cut). By AI agents, Wed Nov 11 2026. No macro, syntax, notation, axiom, sorry.
-/
import Derived.Test.YtbpkndflkbcmaaaChecked
import GoSem.Claim
import GoSem.ClaimJoined
import GoSem.ClaimMapViews
import Derived.JoinedTies
import Derived.KernelRfl
namespace Go.Proofs.Ytbpkndflkbcmaaa
/- THE CELL 'sum', in the pinned program and in every row, IS THE sha256 OF THE DUMP (.gsa) THAT YtbpkndflkbcmaaaProg.lean LOADS. Nothing in Lean hashes anything: it is a label: what it is worth is what the hold of that sum in a sandbox is worth. -/
noncomputable def Try.pinned : Pinned := { name := "ytbpkndflkbcmaaa", sum := "3dd86b5b45f0b216ed812708671ae92384c79d508b1fffc97e3174dc29d4430b", checked := Try.checked }
namespace Rows
def none {H : Type} : Left H := { results := [], args := [] }

/-- 'yardlaw4.GreedyBeside': WHATEVER THE INPUT: true; the input reads as it did. -/
def greedyBesideSpec : ChangeSpec := { name := "greedyBeside", fn := fun _ => fun
  | [d1, d2] => { results := [.lit (.bool true)], args := [d1, d2] }
  | _ => none }
def greedyBesideRow : OpenClaim := { program := "ytbpkndflkbcmaaa", sum := "3dd86b5b45f0b216ed812708671ae92384c79d508b1fffc97e3174dc29d4430b", func := "yardgang/yardlaw4.GreedyBeside", spec := "greedyBeside", unfollowed := true, recurses := true, plainKeys := false, apart := false }
def GreedyBesideSaid : Prop := greedyBesideRow.holds Try.pinned (OpenSpec.ofChange greedyBesideSpec)

/-- ITS FALSE NEIGHBOUR: 'it returns false'. Refute it at one input. -/
def greedyBesideWrong : ChangeSpec := { name := "greedyBeside", fn := fun _ => fun
  | [d1, d2] => { results := [.lit (.bool false)], args := [d1, d2] }
  | _ => none }
def GreedyBesideWrongFalsely : Prop := greedyBesideRow.holds Try.pinned (OpenSpec.ofChange greedyBesideWrong)

/-- 'yardlaw4.JoinChain': WHATEVER THE INPUT: true; the input reads as it did. -/
def joinChainSpec : ChangeSpec := { name := "joinChain", fn := fun _ => fun
  | [d] => { results := [.lit (.bool true)], args := [d] }
  | _ => none }
def joinChainRow : OpenClaim := { program := "ytbpkndflkbcmaaa", sum := "3dd86b5b45f0b216ed812708671ae92384c79d508b1fffc97e3174dc29d4430b", func := "yardgang/yardlaw4.JoinChain", spec := "joinChain", unfollowed := true, recurses := true, plainKeys := false, apart := false }
def JoinChainSaid : Prop := joinChainRow.holds Try.pinned (OpenSpec.ofChange joinChainSpec)

/-- ITS FALSE NEIGHBOUR: 'it returns false'. Refute it at one input. -/
def joinChainWrong : ChangeSpec := { name := "joinChain", fn := fun _ => fun
  | [d] => { results := [.lit (.bool false)], args := [d] }
  | _ => none }
def JoinChainWrongFalsely : Prop := joinChainRow.holds Try.pinned (OpenSpec.ofChange joinChainWrong)

/-- 'yardlaw3.GroupsFall': WHATEVER THE INPUT: true; the input reads as it did. -/
def groupsFallSpec : ChangeSpec := { name := "groupsFall", fn := fun _ => fun
  | [d1, d2, d3, d4] => { results := [.lit (.bool true)], args := [d1, d2, d3, d4] }
  | _ => none }
def groupsFallRow : OpenClaim := { program := "ytbpkndflkbcmaaa", sum := "3dd86b5b45f0b216ed812708671ae92384c79d508b1fffc97e3174dc29d4430b", func := "yardgang/yardlaw3.GroupsFall", spec := "groupsFall", unfollowed := true, recurses := true, plainKeys := false, apart := false }
def GroupsFallSaid : Prop := groupsFallRow.holds Try.pinned (OpenSpec.ofChange groupsFallSpec)

/-- ITS FALSE NEIGHBOUR: 'it returns false'. Refute it at one input. -/
def groupsFallWrong : ChangeSpec := { name := "groupsFall", fn := fun _ => fun
  | [d1, d2, d3, d4] => { results := [.lit (.bool false)], args := [d1, d2, d3, d4] }
  | _ => none }
def GroupsFallWrongFalsely : Prop := groupsFallRow.holds Try.pinned (OpenSpec.ofChange groupsFallWrong)

/-- 'yardlaw1.JoinEnds': WHATEVER THE INPUT: true; the input reads as it did. -/
def joinEndsSpec : ChangeSpec := { name := "joinEnds", fn := fun _ => fun
  | [d1, d2] => { results := [.lit (.bool true)], args := [d1, d2] }
  | _ => none }
def joinEndsRow : OpenClaim := { program := "ytbpkndflkbcmaaa", sum := "3dd86b5b45f0b216ed812708671ae92384c79d508b1fffc97e3174dc29d4430b", func := "yardgang/yardlaw1.JoinEnds", spec := "joinEnds", unfollowed := true, recurses := true, plainKeys := false, apart := false }
def JoinEndsSaid : Prop := joinEndsRow.holds Try.pinned (OpenSpec.ofChange joinEndsSpec)

/-- ITS FALSE NEIGHBOUR: 'it returns false'. Refute it at one input. -/
def joinEndsWrong : ChangeSpec := { name := "joinEnds", fn := fun _ => fun
  | [d1, d2] => { results := [.lit (.bool false)], args := [d1, d2] }
  | _ => none }
def JoinEndsWrongFalsely : Prop := joinEndsRow.holds Try.pinned (OpenSpec.ofChange joinEndsWrong)

/-- 'yardtop.TopCancelled': WHATEVER THE INPUT: true; the input reads as it did. -/
def topCancelledSpec : ChangeSpec := { name := "topCancelled", fn := fun _ => fun
  | [d1, d2, d3, d4] => { results := [.lit (.bool true)], args := [d1, d2, d3, d4] }
  | _ => none }
def topCancelledRow : OpenClaim := { program := "ytbpkndflkbcmaaa", sum := "3dd86b5b45f0b216ed812708671ae92384c79d508b1fffc97e3174dc29d4430b", func := "yardgang/yardtop.TopCancelled", spec := "topCancelled", unfollowed := true, recurses := true, plainKeys := false, apart := false }
def TopCancelledSaid : Prop := topCancelledRow.holds Try.pinned (OpenSpec.ofChange topCancelledSpec)

/-- ITS FALSE NEIGHBOUR: 'it returns false'. Refute it at one input. -/
def topCancelledWrong : ChangeSpec := { name := "topCancelled", fn := fun _ => fun
  | [d1, d2, d3, d4] => { results := [.lit (.bool false)], args := [d1, d2, d3, d4] }
  | _ => none }
def TopCancelledWrongFalsely : Prop := topCancelledRow.holds Try.pinned (OpenSpec.ofChange topCancelledWrong)

/-- 'yardlaw4.CellsFault': WHATEVER THE INPUT: true; the input reads as it did. -/
def cellsFaultSpec : ChangeSpec := { name := "cellsFault", fn := fun _ => fun
  | [d1, d2] => { results := [.lit (.bool true)], args := [d1, d2] }
  | _ => none }
def cellsFaultRow : OpenClaim := { program := "ytbpkndflkbcmaaa", sum := "3dd86b5b45f0b216ed812708671ae92384c79d508b1fffc97e3174dc29d4430b", func := "yardgang/yardlaw4.CellsFault", spec := "cellsFault", unfollowed := true, recurses := true, plainKeys := false, apart := false }
def CellsFaultSaid : Prop := cellsFaultRow.holds Try.pinned (OpenSpec.ofChange cellsFaultSpec)

/-- ITS FALSE NEIGHBOUR: 'it returns false'. Refute it at one input. -/
def cellsFaultWrong : ChangeSpec := { name := "cellsFault", fn := fun _ => fun
  | [d1, d2] => { results := [.lit (.bool false)], args := [d1, d2] }
  | _ => none }
def CellsFaultWrongFalsely : Prop := cellsFaultRow.holds Try.pinned (OpenSpec.ofChange cellsFaultWrong)

/-- 'yardlaw1.DepthWay': WHATEVER THE INPUT: true; the input reads as it did. -/
def depthWaySpec : ChangeSpec := { name := "depthWay", fn := fun _ => fun
  | [d] => { results := [.lit (.bool true)], args := [d] }
  | _ => none }
def depthWayRow : OpenClaim := { program := "ytbpkndflkbcmaaa", sum := "3dd86b5b45f0b216ed812708671ae92384c79d508b1fffc97e3174dc29d4430b", func := "yardgang/yardlaw1.DepthWay", spec := "depthWay", unfollowed := true, recurses := true, plainKeys := false, apart := false }
def DepthWaySaid : Prop := depthWayRow.holds Try.pinned (OpenSpec.ofChange depthWaySpec)

/-- ITS FALSE NEIGHBOUR: 'it returns false'. Refute it at one input. -/
def depthWayWrong : ChangeSpec := { name := "depthWay", fn := fun _ => fun
  | [d] => { results := [.lit (.bool false)], args := [d] }
  | _ => none }
def DepthWayWrongFalsely : Prop := depthWayRow.holds Try.pinned (OpenSpec.ofChange depthWayWrong)

/-- 'yardlaw3.BenchAdds': WHATEVER THE INPUT: true; the input reads as it did. -/
def benchAddsSpec : ChangeSpec := { name := "benchAdds", fn := fun _ => fun
  | [d1, d2, d3] => { results := [.lit (.bool true)], args := [d1, d2, d3] }
  | _ => none }
def benchAddsRow : OpenClaim := { program := "ytbpkndflkbcmaaa", sum := "3dd86b5b45f0b216ed812708671ae92384c79d508b1fffc97e3174dc29d4430b", func := "yardgang/yardlaw3.BenchAdds", spec := "benchAdds", unfollowed := true, recurses := true, plainKeys := false, apart := false }
def BenchAddsSaid : Prop := benchAddsRow.holds Try.pinned (OpenSpec.ofChange benchAddsSpec)

/-- ITS FALSE NEIGHBOUR: 'it returns false'. Refute it at one input. -/
def benchAddsWrong : ChangeSpec := { name := "benchAdds", fn := fun _ => fun
  | [d1, d2, d3] => { results := [.lit (.bool false)], args := [d1, d2, d3] }
  | _ => none }
def BenchAddsWrongFalsely : Prop := benchAddsRow.holds Try.pinned (OpenSpec.ofChange benchAddsWrong)

/-- 'yardlaw4.DepthChain': WHATEVER THE INPUT: true; the input reads as it did. -/
def depthChainSpec : ChangeSpec := { name := "depthChain", fn := fun _ => fun
  | [d1, d2] => { results := [.lit (.bool true)], args := [d1, d2] }
  | _ => none }
def depthChainRow : OpenClaim := { program := "ytbpkndflkbcmaaa", sum := "3dd86b5b45f0b216ed812708671ae92384c79d508b1fffc97e3174dc29d4430b", func := "yardgang/yardlaw4.DepthChain", spec := "depthChain", unfollowed := true, recurses := true, plainKeys := false, apart := false }
def DepthChainSaid : Prop := depthChainRow.holds Try.pinned (OpenSpec.ofChange depthChainSpec)

/-- ITS FALSE NEIGHBOUR: 'it returns false'. Refute it at one input. -/
def depthChainWrong : ChangeSpec := { name := "depthChain", fn := fun _ => fun
  | [d1, d2] => { results := [.lit (.bool false)], args := [d1, d2] }
  | _ => none }
def DepthChainWrongFalsely : Prop := depthChainRow.holds Try.pinned (OpenSpec.ofChange depthChainWrong)

/-- 'yardlaw4.GreedyMore': WHATEVER THE INPUT: true; the input reads as it did. -/
def greedyMoreSpec : ChangeSpec := { name := "greedyMore", fn := fun _ => fun
  | [d] => { results := [.lit (.bool true)], args := [d] }
  | _ => none }
def greedyMoreRow : OpenClaim := { program := "ytbpkndflkbcmaaa", sum := "3dd86b5b45f0b216ed812708671ae92384c79d508b1fffc97e3174dc29d4430b", func := "yardgang/yardlaw4.GreedyMore", spec := "greedyMore", unfollowed := true, recurses := true, plainKeys := false, apart := false }
def GreedyMoreSaid : Prop := greedyMoreRow.holds Try.pinned (OpenSpec.ofChange greedyMoreSpec)

/-- ITS FALSE NEIGHBOUR: 'it returns false'. Refute it at one input. -/
def greedyMoreWrong : ChangeSpec := { name := "greedyMore", fn := fun _ => fun
  | [d] => { results := [.lit (.bool false)], args := [d] }
  | _ => none }
def GreedyMoreWrongFalsely : Prop := greedyMoreRow.holds Try.pinned (OpenSpec.ofChange greedyMoreWrong)

/-- 'yardlaw2.GreedyBound': WHATEVER THE INPUT: true; the input reads as it did. -/
def greedyBoundSpec : ChangeSpec := { name := "greedyBound", fn := fun _ => fun
  | [d1, d2] => { results := [.lit (.bool true)], args := [d1, d2] }
  | _ => none }
def greedyBoundRow : OpenClaim := { program := "ytbpkndflkbcmaaa", sum := "3dd86b5b45f0b216ed812708671ae92384c79d508b1fffc97e3174dc29d4430b", func := "yardgang/yardlaw2.GreedyBound", spec := "greedyBound", unfollowed := true, recurses := true, plainKeys := false, apart := false }
def GreedyBoundSaid : Prop := greedyBoundRow.holds Try.pinned (OpenSpec.ofChange greedyBoundSpec)

/-- ITS FALSE NEIGHBOUR: 'it returns false'. Refute it at one input. -/
def greedyBoundWrong : ChangeSpec := { name := "greedyBound", fn := fun _ => fun
  | [d1, d2] => { results := [.lit (.bool false)], args := [d1, d2] }
  | _ => none }
def GreedyBoundWrongFalsely : Prop := greedyBoundRow.holds Try.pinned (OpenSpec.ofChange greedyBoundWrong)

/-- 'yardlaw4.ListUrgent': WHATEVER THE INPUT: true; the input reads as it did. -/
def listUrgentSpec : ChangeSpec := { name := "listUrgent", fn := fun _ => fun
  | [d] => { results := [.lit (.bool true)], args := [d] }
  | _ => none }
def listUrgentRow : OpenClaim := { program := "ytbpkndflkbcmaaa", sum := "3dd86b5b45f0b216ed812708671ae92384c79d508b1fffc97e3174dc29d4430b", func := "yardgang/yardlaw4.ListUrgent", spec := "listUrgent", unfollowed := true, recurses := true, plainKeys := false, apart := false }
def ListUrgentSaid : Prop := listUrgentRow.holds Try.pinned (OpenSpec.ofChange listUrgentSpec)

/-- ITS FALSE NEIGHBOUR: 'it returns false'. Refute it at one input. -/
def listUrgentWrong : ChangeSpec := { name := "listUrgent", fn := fun _ => fun
  | [d] => { results := [.lit (.bool false)], args := [d] }
  | _ => none }
def ListUrgentWrongFalsely : Prop := listUrgentRow.holds Try.pinned (OpenSpec.ofChange listUrgentWrong)

/- THE SECOND FORM. 'bulk': how many values and letters a reading holds, each counted each time it is reached (what is shared counts as often as it is met; a slice's spare places count too). A statement '..UptoSaid' is the law's where the arguments, and the package variables that the reading takes, are together of bulk at most 1048576: NARROWER than '..Said'. Prove '..Said' where nothing that the law and all that it calls make is longer than what came in: it says more and counts as full. Else prove '..UptoSaid'. A law counts once. -/
mutual
def uptoBulk {H : Type} : DataW H → Nat
  | .lit (.string bytes) => bytes.length + 1
  | .lit _ => 1
  | .nil => 1
  | .ptr d => uptoBulk d + 1
  | .slice elems spare => uptoBulkAll elems + uptoBulkAll spare + 1
  | .agg parts => uptoBulkAll parts + 1
  | .iface _ d => uptoBulk d + 1
  | .map entries => uptoBulkEntries entries + 1
  | .held _ => 1
def uptoBulkAll {H : Type} : List (DataW H) → Nat
  | [] => 0
  | d :: r => uptoBulk d + uptoBulkAll r
def uptoBulkEntries {H : Type} : List (Lit × DataW H) → Nat
  | [] => 0
  | x :: r => uptoBulkEntry x + uptoBulkEntries r
def uptoBulkEntry {H : Type} : Lit × DataW H → Nat
  | (.string bytes, d) => bytes.length + uptoBulk d + 1
  | (_, d) => uptoBulk d + 1
 end
def uptoSmall : (H : Type) → List (DataW H) → Bool := fun _ ds => decide (uptoBulkAll ds ≤ 1048576)
def OpenSpec.upto (s : _root_.Go.ChangeSpec) : _root_.Go.OpenSpec := { _root_.Go.OpenSpec.ofChange s with cond := some uptoSmall }

/-- 'yardlaw4.GreedyBeside', WHERE WHAT IT READS IS OF BULK AT MOST 1048576: true; the input reads as it did. -/
def greedyBesideUptoRow : OpenClaim := { program := "ytbpkndflkbcmaaa", sum := "3dd86b5b45f0b216ed812708671ae92384c79d508b1fffc97e3174dc29d4430b", func := "yardgang/yardlaw4.GreedyBeside", spec := "greedyBeside", unfollowed := true, recurses := true, plainKeys := false, apart := false, narrowed := true }
def GreedyBesideUptoSaid : Prop := greedyBesideUptoRow.holds Try.pinned (OpenSpec.upto greedyBesideSpec)

/-- 'yardlaw4.JoinChain', WHERE WHAT IT READS IS OF BULK AT MOST 1048576: true; the input reads as it did. -/
def joinChainUptoRow : OpenClaim := { program := "ytbpkndflkbcmaaa", sum := "3dd86b5b45f0b216ed812708671ae92384c79d508b1fffc97e3174dc29d4430b", func := "yardgang/yardlaw4.JoinChain", spec := "joinChain", unfollowed := true, recurses := true, plainKeys := false, apart := false, narrowed := true }
def JoinChainUptoSaid : Prop := joinChainUptoRow.holds Try.pinned (OpenSpec.upto joinChainSpec)

/-- 'yardlaw3.GroupsFall', WHERE WHAT IT READS IS OF BULK AT MOST 1048576: true; the input reads as it did. -/
def groupsFallUptoRow : OpenClaim := { program := "ytbpkndflkbcmaaa", sum := "3dd86b5b45f0b216ed812708671ae92384c79d508b1fffc97e3174dc29d4430b", func := "yardgang/yardlaw3.GroupsFall", spec := "groupsFall", unfollowed := true, recurses := true, plainKeys := false, apart := false, narrowed := true }
def GroupsFallUptoSaid : Prop := groupsFallUptoRow.holds Try.pinned (OpenSpec.upto groupsFallSpec)

/-- 'yardlaw1.JoinEnds', WHERE WHAT IT READS IS OF BULK AT MOST 1048576: true; the input reads as it did. -/
def joinEndsUptoRow : OpenClaim := { program := "ytbpkndflkbcmaaa", sum := "3dd86b5b45f0b216ed812708671ae92384c79d508b1fffc97e3174dc29d4430b", func := "yardgang/yardlaw1.JoinEnds", spec := "joinEnds", unfollowed := true, recurses := true, plainKeys := false, apart := false, narrowed := true }
def JoinEndsUptoSaid : Prop := joinEndsUptoRow.holds Try.pinned (OpenSpec.upto joinEndsSpec)

/-- 'yardtop.TopCancelled', WHERE WHAT IT READS IS OF BULK AT MOST 1048576: true; the input reads as it did. -/
def topCancelledUptoRow : OpenClaim := { program := "ytbpkndflkbcmaaa", sum := "3dd86b5b45f0b216ed812708671ae92384c79d508b1fffc97e3174dc29d4430b", func := "yardgang/yardtop.TopCancelled", spec := "topCancelled", unfollowed := true, recurses := true, plainKeys := false, apart := false, narrowed := true }
def TopCancelledUptoSaid : Prop := topCancelledUptoRow.holds Try.pinned (OpenSpec.upto topCancelledSpec)

/-- 'yardlaw4.CellsFault', WHERE WHAT IT READS IS OF BULK AT MOST 1048576: true; the input reads as it did. -/
def cellsFaultUptoRow : OpenClaim := { program := "ytbpkndflkbcmaaa", sum := "3dd86b5b45f0b216ed812708671ae92384c79d508b1fffc97e3174dc29d4430b", func := "yardgang/yardlaw4.CellsFault", spec := "cellsFault", unfollowed := true, recurses := true, plainKeys := false, apart := false, narrowed := true }
def CellsFaultUptoSaid : Prop := cellsFaultUptoRow.holds Try.pinned (OpenSpec.upto cellsFaultSpec)

/-- 'yardlaw1.DepthWay', WHERE WHAT IT READS IS OF BULK AT MOST 1048576: true; the input reads as it did. -/
def depthWayUptoRow : OpenClaim := { program := "ytbpkndflkbcmaaa", sum := "3dd86b5b45f0b216ed812708671ae92384c79d508b1fffc97e3174dc29d4430b", func := "yardgang/yardlaw1.DepthWay", spec := "depthWay", unfollowed := true, recurses := true, plainKeys := false, apart := false, narrowed := true }
def DepthWayUptoSaid : Prop := depthWayUptoRow.holds Try.pinned (OpenSpec.upto depthWaySpec)

/-- 'yardlaw3.BenchAdds', WHERE WHAT IT READS IS OF BULK AT MOST 1048576: true; the input reads as it did. -/
def benchAddsUptoRow : OpenClaim := { program := "ytbpkndflkbcmaaa", sum := "3dd86b5b45f0b216ed812708671ae92384c79d508b1fffc97e3174dc29d4430b", func := "yardgang/yardlaw3.BenchAdds", spec := "benchAdds", unfollowed := true, recurses := true, plainKeys := false, apart := false, narrowed := true }
def BenchAddsUptoSaid : Prop := benchAddsUptoRow.holds Try.pinned (OpenSpec.upto benchAddsSpec)

/-- 'yardlaw4.DepthChain', WHERE WHAT IT READS IS OF BULK AT MOST 1048576: true; the input reads as it did. -/
def depthChainUptoRow : OpenClaim := { program := "ytbpkndflkbcmaaa", sum := "3dd86b5b45f0b216ed812708671ae92384c79d508b1fffc97e3174dc29d4430b", func := "yardgang/yardlaw4.DepthChain", spec := "depthChain", unfollowed := true, recurses := true, plainKeys := false, apart := false, narrowed := true }
def DepthChainUptoSaid : Prop := depthChainUptoRow.holds Try.pinned (OpenSpec.upto depthChainSpec)

/-- 'yardlaw4.GreedyMore', WHERE WHAT IT READS IS OF BULK AT MOST 1048576: true; the input reads as it did. -/
def greedyMoreUptoRow : OpenClaim := { program := "ytbpkndflkbcmaaa", sum := "3dd86b5b45f0b216ed812708671ae92384c79d508b1fffc97e3174dc29d4430b", func := "yardgang/yardlaw4.GreedyMore", spec := "greedyMore", unfollowed := true, recurses := true, plainKeys := false, apart := false, narrowed := true }
def GreedyMoreUptoSaid : Prop := greedyMoreUptoRow.holds Try.pinned (OpenSpec.upto greedyMoreSpec)

/-- 'yardlaw2.GreedyBound', WHERE WHAT IT READS IS OF BULK AT MOST 1048576: true; the input reads as it did. -/
def greedyBoundUptoRow : OpenClaim := { program := "ytbpkndflkbcmaaa", sum := "3dd86b5b45f0b216ed812708671ae92384c79d508b1fffc97e3174dc29d4430b", func := "yardgang/yardlaw2.GreedyBound", spec := "greedyBound", unfollowed := true, recurses := true, plainKeys := false, apart := false, narrowed := true }
def GreedyBoundUptoSaid : Prop := greedyBoundUptoRow.holds Try.pinned (OpenSpec.upto greedyBoundSpec)

/-- 'yardlaw4.ListUrgent', WHERE WHAT IT READS IS OF BULK AT MOST 1048576: true; the input reads as it did. -/
def listUrgentUptoRow : OpenClaim := { program := "ytbpkndflkbcmaaa", sum := "3dd86b5b45f0b216ed812708671ae92384c79d508b1fffc97e3174dc29d4430b", func := "yardgang/yardlaw4.ListUrgent", spec := "listUrgent", unfollowed := true, recurses := true, plainKeys := false, apart := false, narrowed := true }
def ListUrgentUptoSaid : Prop := listUrgentUptoRow.holds Try.pinned (OpenSpec.upto listUrgentSpec)

end Rows
end Go.Proofs.Ytbpkndflkbcmaaa
