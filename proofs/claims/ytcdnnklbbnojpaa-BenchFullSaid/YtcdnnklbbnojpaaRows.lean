/-
  No cell of these rows narrows 'for every input' (looked for: loops, veiled, ifaces, maps, wideKeys, modest, calm, conditions, laid).
  DERIVED. THE GIVEN ROWS OF THIS SEAT. 12 by the template 'for every input the law returns true; each argument reads behind the call as it read before'; 0 by the template 'total and deterministic' (their statements: YtcdnnklbbnojpaaTotals.lean).
  GIVEN WITH THE SEED: the statements are not yours to turn. If you find one false, say at which input.
  Laid BY PROGRAM, IN A SANDBOX (cutbox-rows.mjs): the forced cells as the released guide's own fill.sh prints them over the translation d97355a69dc447e0… (all of the seat's roots in one cut). By AI agents, Wed Nov 11 2026. No macro, syntax, notation, axiom, sorry.
-/
import Derived.Test.YtcdnnklbbnojpaaChecked
import GoSem.Claim
import GoSem.ClaimJoined
import GoSem.ClaimMapViews
import Derived.JoinedTies
import Derived.KernelRfl
namespace Go.Proofs.Ytcdnnklbbnojpaa
/- THE CELL 'sum', in the pinned program and in every row, IS THE sha256 OF THE DUMP (.gsa) THAT YtcdnnklbbnojpaaProg.lean LOADS. Nothing in Lean hashes anything: it is a label: what it is worth is what the hold of that sum in a sandbox is worth. -/
noncomputable def Try.pinned : Pinned := { name := "ytcdnnklbbnojpaa", sum := "d97355a69dc447e0d1e7f598ac8205e9c83181a0e2fd334c41eccb2252191be9", checked := Try.checked }
namespace Rows
def none {H : Type} : Left H := { results := [], args := [] }

/-- 'yardlaw1.Names': WHATEVER THE INPUT: true; the input reads as it did. -/
def namesSpec : ChangeSpec := { name := "names", fn := fun _ => fun
  | [] => { results := [.lit (.bool true)], args := [] }
  | _ => none }
def namesRow : OpenClaim := { program := "ytcdnnklbbnojpaa", sum := "d97355a69dc447e0d1e7f598ac8205e9c83181a0e2fd334c41eccb2252191be9", func := "yardgang/yardlaw1.Names", spec := "names", apart := false }
def NamesSaid : Prop := namesRow.holds Try.pinned (OpenSpec.ofChange namesSpec)

/-- ITS FALSE NEIGHBOUR: 'it returns false'. Refute it at one input. -/
def namesWrong : ChangeSpec := { name := "names", fn := fun _ => fun
  | [] => { results := [.lit (.bool false)], args := [] }
  | _ => none }
def NamesWrongFalsely : Prop := namesRow.holds Try.pinned (OpenSpec.ofChange namesWrong)

/-- 'yardlaw4.RingTurns': WHATEVER THE INPUT: true; the input reads as it did. -/
def ringTurnsSpec : ChangeSpec := { name := "ringTurns", fn := fun _ => fun
  | [d1, d2] => { results := [.lit (.bool true)], args := [d1, d2] }
  | _ => none }
def ringTurnsRow : OpenClaim := { program := "ytcdnnklbbnojpaa", sum := "d97355a69dc447e0d1e7f598ac8205e9c83181a0e2fd334c41eccb2252191be9", func := "yardgang/yardlaw4.RingTurns", spec := "ringTurns", apart := false }
def RingTurnsSaid : Prop := ringTurnsRow.holds Try.pinned (OpenSpec.ofChange ringTurnsSpec)

/-- ITS FALSE NEIGHBOUR: 'it returns false'. Refute it at one input. -/
def ringTurnsWrong : ChangeSpec := { name := "ringTurns", fn := fun _ => fun
  | [d1, d2] => { results := [.lit (.bool false)], args := [d1, d2] }
  | _ => none }
def RingTurnsWrongFalsely : Prop := ringTurnsRow.holds Try.pinned (OpenSpec.ofChange ringTurnsWrong)

/-- 'yardlaw4.BenchFull': WHATEVER THE INPUT: true; the input reads as it did. -/
def benchFullSpec : ChangeSpec := { name := "benchFull", fn := fun _ => fun
  | [d1, d2] => { results := [.lit (.bool true)], args := [d1, d2] }
  | _ => none }
def benchFullRow : OpenClaim := { program := "ytcdnnklbbnojpaa", sum := "d97355a69dc447e0d1e7f598ac8205e9c83181a0e2fd334c41eccb2252191be9", func := "yardgang/yardlaw4.BenchFull", spec := "benchFull", apart := false }
def BenchFullSaid : Prop := benchFullRow.holds Try.pinned (OpenSpec.ofChange benchFullSpec)

/-- ITS FALSE NEIGHBOUR: 'it returns false'. Refute it at one input. -/
def benchFullWrong : ChangeSpec := { name := "benchFull", fn := fun _ => fun
  | [d1, d2] => { results := [.lit (.bool false)], args := [d1, d2] }
  | _ => none }
def BenchFullWrongFalsely : Prop := benchFullRow.holds Try.pinned (OpenSpec.ofChange benchFullWrong)

/-- 'yardlaw4.ParkAll': WHATEVER THE INPUT: true; the input reads as it did. -/
def parkAllSpec : ChangeSpec := { name := "parkAll", fn := fun _ => fun
  | [d] => { results := [.lit (.bool true)], args := [d] }
  | _ => none }
def parkAllRow : OpenClaim := { program := "ytcdnnklbbnojpaa", sum := "d97355a69dc447e0d1e7f598ac8205e9c83181a0e2fd334c41eccb2252191be9", func := "yardgang/yardlaw4.ParkAll", spec := "parkAll", apart := false }
def ParkAllSaid : Prop := parkAllRow.holds Try.pinned (OpenSpec.ofChange parkAllSpec)

/-- ITS FALSE NEIGHBOUR: 'it returns false'. Refute it at one input. -/
def parkAllWrong : ChangeSpec := { name := "parkAll", fn := fun _ => fun
  | [d] => { results := [.lit (.bool false)], args := [d] }
  | _ => none }
def ParkAllWrongFalsely : Prop := parkAllRow.holds Try.pinned (OpenSpec.ofChange parkAllWrong)

/-- 'yardlaw1.RingWhole': WHATEVER THE INPUT: true; the input reads as it did. -/
def ringWholeSpec : ChangeSpec := { name := "ringWhole", fn := fun _ => fun
  | [d1, d2] => { results := [.lit (.bool true)], args := [d1, d2] }
  | _ => none }
def ringWholeRow : OpenClaim := { program := "ytcdnnklbbnojpaa", sum := "d97355a69dc447e0d1e7f598ac8205e9c83181a0e2fd334c41eccb2252191be9", func := "yardgang/yardlaw1.RingWhole", spec := "ringWhole", apart := false }
def RingWholeSaid : Prop := ringWholeRow.holds Try.pinned (OpenSpec.ofChange ringWholeSpec)

/-- ITS FALSE NEIGHBOUR: 'it returns false'. Refute it at one input. -/
def ringWholeWrong : ChangeSpec := { name := "ringWhole", fn := fun _ => fun
  | [d1, d2] => { results := [.lit (.bool false)], args := [d1, d2] }
  | _ => none }
def RingWholeWrongFalsely : Prop := ringWholeRow.holds Try.pinned (OpenSpec.ofChange ringWholeWrong)

/-- 'yardlaw2.ParkWakes': WHATEVER THE INPUT: true; the input reads as it did. -/
def parkWakesSpec : ChangeSpec := { name := "parkWakes", fn := fun _ => fun
  | [d1, d2, d3] => { results := [.lit (.bool true)], args := [d1, d2, d3] }
  | _ => none }
def parkWakesRow : OpenClaim := { program := "ytcdnnklbbnojpaa", sum := "d97355a69dc447e0d1e7f598ac8205e9c83181a0e2fd334c41eccb2252191be9", func := "yardgang/yardlaw2.ParkWakes", spec := "parkWakes", apart := false }
def ParkWakesSaid : Prop := parkWakesRow.holds Try.pinned (OpenSpec.ofChange parkWakesSpec)

/-- ITS FALSE NEIGHBOUR: 'it returns false'. Refute it at one input. -/
def parkWakesWrong : ChangeSpec := { name := "parkWakes", fn := fun _ => fun
  | [d1, d2, d3] => { results := [.lit (.bool false)], args := [d1, d2, d3] }
  | _ => none }
def ParkWakesWrongFalsely : Prop := parkWakesRow.holds Try.pinned (OpenSpec.ofChange parkWakesWrong)

/-- 'yardlaw4.HandOut': WHATEVER THE INPUT: true; the input reads as it did. -/
def handOutSpec : ChangeSpec := { name := "handOut", fn := fun _ => fun
  | [d] => { results := [.lit (.bool true)], args := [d] }
  | _ => none }
def handOutRow : OpenClaim := { program := "ytcdnnklbbnojpaa", sum := "d97355a69dc447e0d1e7f598ac8205e9c83181a0e2fd334c41eccb2252191be9", func := "yardgang/yardlaw4.HandOut", spec := "handOut", apart := false }
def HandOutSaid : Prop := handOutRow.holds Try.pinned (OpenSpec.ofChange handOutSpec)

/-- ITS FALSE NEIGHBOUR: 'it returns false'. Refute it at one input. -/
def handOutWrong : ChangeSpec := { name := "handOut", fn := fun _ => fun
  | [d] => { results := [.lit (.bool false)], args := [d] }
  | _ => none }
def HandOutWrongFalsely : Prop := handOutRow.holds Try.pinned (OpenSpec.ofChange handOutWrong)

/-- 'yardlaw1.PicksShuffle': WHATEVER THE INPUT: true; the input reads as it did. -/
def picksShuffleSpec : ChangeSpec := { name := "picksShuffle", fn := fun _ => fun
  | [d1, d2, d3] => { results := [.lit (.bool true)], args := [d1, d2, d3] }
  | _ => none }
def picksShuffleRow : OpenClaim := { program := "ytcdnnklbbnojpaa", sum := "d97355a69dc447e0d1e7f598ac8205e9c83181a0e2fd334c41eccb2252191be9", func := "yardgang/yardlaw1.PicksShuffle", spec := "picksShuffle", unfollowed := true, recurses := true, apart := false }
def PicksShuffleSaid : Prop := picksShuffleRow.holds Try.pinned (OpenSpec.ofChange picksShuffleSpec)

/-- ITS FALSE NEIGHBOUR: 'it returns false'. Refute it at one input. -/
def picksShuffleWrong : ChangeSpec := { name := "picksShuffle", fn := fun _ => fun
  | [d1, d2, d3] => { results := [.lit (.bool false)], args := [d1, d2, d3] }
  | _ => none }
def PicksShuffleWrongFalsely : Prop := picksShuffleRow.holds Try.pinned (OpenSpec.ofChange picksShuffleWrong)

/-- 'yardlaw1.SpillOrders': WHATEVER THE INPUT: true; the input reads as it did. -/
def spillOrdersSpec : ChangeSpec := { name := "spillOrders", fn := fun _ => fun
  | [d1, d2] => { results := [.lit (.bool true)], args := [d1, d2] }
  | _ => none }
def spillOrdersRow : OpenClaim := { program := "ytcdnnklbbnojpaa", sum := "d97355a69dc447e0d1e7f598ac8205e9c83181a0e2fd334c41eccb2252191be9", func := "yardgang/yardlaw1.SpillOrders", spec := "spillOrders", apart := false }
def SpillOrdersSaid : Prop := spillOrdersRow.holds Try.pinned (OpenSpec.ofChange spillOrdersSpec)

/-- ITS FALSE NEIGHBOUR: 'it returns false'. Refute it at one input. -/
def spillOrdersWrong : ChangeSpec := { name := "spillOrders", fn := fun _ => fun
  | [d1, d2] => { results := [.lit (.bool false)], args := [d1, d2] }
  | _ => none }
def SpillOrdersWrongFalsely : Prop := spillOrdersRow.holds Try.pinned (OpenSpec.ofChange spillOrdersWrong)

/-- 'yardlaw4.YardRounds': WHATEVER THE INPUT: true; the input reads as it did. -/
def yardRoundsSpec : ChangeSpec := { name := "yardRounds", fn := fun _ => fun
  | [d1, d2, d3] => { results := [.lit (.bool true)], args := [d1, d2, d3] }
  | _ => none }
def yardRoundsRow : OpenClaim := { program := "ytcdnnklbbnojpaa", sum := "d97355a69dc447e0d1e7f598ac8205e9c83181a0e2fd334c41eccb2252191be9", func := "yardgang/yardlaw4.YardRounds", spec := "yardRounds", apart := false }
def YardRoundsSaid : Prop := yardRoundsRow.holds Try.pinned (OpenSpec.ofChange yardRoundsSpec)

/-- ITS FALSE NEIGHBOUR: 'it returns false'. Refute it at one input. -/
def yardRoundsWrong : ChangeSpec := { name := "yardRounds", fn := fun _ => fun
  | [d1, d2, d3] => { results := [.lit (.bool false)], args := [d1, d2, d3] }
  | _ => none }
def YardRoundsWrongFalsely : Prop := yardRoundsRow.holds Try.pinned (OpenSpec.ofChange yardRoundsWrong)

/-- 'yardlaw3.YardFair': WHATEVER THE INPUT: true; the input reads as it did. -/
def yardFairSpec : ChangeSpec := { name := "yardFair", fn := fun _ => fun
  | [d1, d2] => { results := [.lit (.bool true)], args := [d1, d2] }
  | _ => none }
def yardFairRow : OpenClaim := { program := "ytcdnnklbbnojpaa", sum := "d97355a69dc447e0d1e7f598ac8205e9c83181a0e2fd334c41eccb2252191be9", func := "yardgang/yardlaw3.YardFair", spec := "yardFair", apart := false }
def YardFairSaid : Prop := yardFairRow.holds Try.pinned (OpenSpec.ofChange yardFairSpec)

/-- ITS FALSE NEIGHBOUR: 'it returns false'. Refute it at one input. -/
def yardFairWrong : ChangeSpec := { name := "yardFair", fn := fun _ => fun
  | [d1, d2] => { results := [.lit (.bool false)], args := [d1, d2] }
  | _ => none }
def YardFairWrongFalsely : Prop := yardFairRow.holds Try.pinned (OpenSpec.ofChange yardFairWrong)

/-- 'yardlaw1.HandLast': WHATEVER THE INPUT: true; the input reads as it did. -/
def handLastSpec : ChangeSpec := { name := "handLast", fn := fun _ => fun
  | [d1, d2] => { results := [.lit (.bool true)], args := [d1, d2] }
  | _ => none }
def handLastRow : OpenClaim := { program := "ytcdnnklbbnojpaa", sum := "d97355a69dc447e0d1e7f598ac8205e9c83181a0e2fd334c41eccb2252191be9", func := "yardgang/yardlaw1.HandLast", spec := "handLast", apart := false }
def HandLastSaid : Prop := handLastRow.holds Try.pinned (OpenSpec.ofChange handLastSpec)

/-- ITS FALSE NEIGHBOUR: 'it returns false'. Refute it at one input. -/
def handLastWrong : ChangeSpec := { name := "handLast", fn := fun _ => fun
  | [d1, d2] => { results := [.lit (.bool false)], args := [d1, d2] }
  | _ => none }
def HandLastWrongFalsely : Prop := handLastRow.holds Try.pinned (OpenSpec.ofChange handLastWrong)

/- THE SECOND FORM. 'bulk': how many values and letters a reading holds, each counted each time it is reached (what is shared counts as often as it is met; a slice's spare places count too). A statement '..UptoSaid' is the law's where the arguments, and the package variables that the reading takes, are together of bulk at most 1048576: NARROWER than '..Said'. Prove '..Said' where nothing that the law and all that it calls make is longer than what came in: it says more and counts as full. Else prove '..UptoSaid'. A law counts once. -/
mutual
def uptoBulk {H : Type} : DataW H → Nat
  | .lit (.string bytes) => bytes.length + 1
  | .lit _ => 1
  | .nil => 1
  | .ptr d => uptoBulk d + 1
  | .slice elems spare => uptoBulkAll elems + uptoBulkAll spare + 1
  | .agg parts => uptoBulkAll parts + 1
  | .iface _ d => uptoBulk d + 1
  | .map entries => uptoBulkEntries entries + 1
  | .held _ => 1
def uptoBulkAll {H : Type} : List (DataW H) → Nat
  | [] => 0
  | d :: r => uptoBulk d + uptoBulkAll r
def uptoBulkEntries {H : Type} : List (Lit × DataW H) → Nat
  | [] => 0
  | x :: r => uptoBulkEntry x + uptoBulkEntries r
def uptoBulkEntry {H : Type} : Lit × DataW H → Nat
  | (.string bytes, d) => bytes.length + uptoBulk d + 1
  | (_, d) => uptoBulk d + 1
 end
def uptoSmall : (H : Type) → List (DataW H) → Bool := fun _ ds => decide (uptoBulkAll ds ≤ 1048576)
def OpenSpec.upto (s : _root_.Go.ChangeSpec) : _root_.Go.OpenSpec := { _root_.Go.OpenSpec.ofChange s with cond := some uptoSmall }

/-- 'yardlaw1.Names', WHERE WHAT IT READS IS OF BULK AT MOST 1048576: true; the input reads as it did. -/
def namesUptoRow : OpenClaim := { program := "ytcdnnklbbnojpaa", sum := "d97355a69dc447e0d1e7f598ac8205e9c83181a0e2fd334c41eccb2252191be9", func := "yardgang/yardlaw1.Names", spec := "names", apart := false, narrowed := true }
def NamesUptoSaid : Prop := namesUptoRow.holds Try.pinned (OpenSpec.upto namesSpec)

/-- 'yardlaw4.RingTurns', WHERE WHAT IT READS IS OF BULK AT MOST 1048576: true; the input reads as it did. -/
def ringTurnsUptoRow : OpenClaim := { program := "ytcdnnklbbnojpaa", sum := "d97355a69dc447e0d1e7f598ac8205e9c83181a0e2fd334c41eccb2252191be9", func := "yardgang/yardlaw4.RingTurns", spec := "ringTurns", apart := false, narrowed := true }
def RingTurnsUptoSaid : Prop := ringTurnsUptoRow.holds Try.pinned (OpenSpec.upto ringTurnsSpec)

/-- 'yardlaw4.BenchFull', WHERE WHAT IT READS IS OF BULK AT MOST 1048576: true; the input reads as it did. -/
def benchFullUptoRow : OpenClaim := { program := "ytcdnnklbbnojpaa", sum := "d97355a69dc447e0d1e7f598ac8205e9c83181a0e2fd334c41eccb2252191be9", func := "yardgang/yardlaw4.BenchFull", spec := "benchFull", apart := false, narrowed := true }
def BenchFullUptoSaid : Prop := benchFullUptoRow.holds Try.pinned (OpenSpec.upto benchFullSpec)

/-- 'yardlaw4.ParkAll', WHERE WHAT IT READS IS OF BULK AT MOST 1048576: true; the input reads as it did. -/
def parkAllUptoRow : OpenClaim := { program := "ytcdnnklbbnojpaa", sum := "d97355a69dc447e0d1e7f598ac8205e9c83181a0e2fd334c41eccb2252191be9", func := "yardgang/yardlaw4.ParkAll", spec := "parkAll", apart := false, narrowed := true }
def ParkAllUptoSaid : Prop := parkAllUptoRow.holds Try.pinned (OpenSpec.upto parkAllSpec)

/-- 'yardlaw1.RingWhole', WHERE WHAT IT READS IS OF BULK AT MOST 1048576: true; the input reads as it did. -/
def ringWholeUptoRow : OpenClaim := { program := "ytcdnnklbbnojpaa", sum := "d97355a69dc447e0d1e7f598ac8205e9c83181a0e2fd334c41eccb2252191be9", func := "yardgang/yardlaw1.RingWhole", spec := "ringWhole", apart := false, narrowed := true }
def RingWholeUptoSaid : Prop := ringWholeUptoRow.holds Try.pinned (OpenSpec.upto ringWholeSpec)

/-- 'yardlaw2.ParkWakes', WHERE WHAT IT READS IS OF BULK AT MOST 1048576: true; the input reads as it did. -/
def parkWakesUptoRow : OpenClaim := { program := "ytcdnnklbbnojpaa", sum := "d97355a69dc447e0d1e7f598ac8205e9c83181a0e2fd334c41eccb2252191be9", func := "yardgang/yardlaw2.ParkWakes", spec := "parkWakes", apart := false, narrowed := true }
def ParkWakesUptoSaid : Prop := parkWakesUptoRow.holds Try.pinned (OpenSpec.upto parkWakesSpec)

/-- 'yardlaw4.HandOut', WHERE WHAT IT READS IS OF BULK AT MOST 1048576: true; the input reads as it did. -/
def handOutUptoRow : OpenClaim := { program := "ytcdnnklbbnojpaa", sum := "d97355a69dc447e0d1e7f598ac8205e9c83181a0e2fd334c41eccb2252191be9", func := "yardgang/yardlaw4.HandOut", spec := "handOut", apart := false, narrowed := true }
def HandOutUptoSaid : Prop := handOutUptoRow.holds Try.pinned (OpenSpec.upto handOutSpec)

/-- 'yardlaw1.PicksShuffle', WHERE WHAT IT READS IS OF BULK AT MOST 1048576: true; the input reads as it did. -/
def picksShuffleUptoRow : OpenClaim := { program := "ytcdnnklbbnojpaa", sum := "d97355a69dc447e0d1e7f598ac8205e9c83181a0e2fd334c41eccb2252191be9", func := "yardgang/yardlaw1.PicksShuffle", spec := "picksShuffle", unfollowed := true, recurses := true, apart := false, narrowed := true }
def PicksShuffleUptoSaid : Prop := picksShuffleUptoRow.holds Try.pinned (OpenSpec.upto picksShuffleSpec)

/-- 'yardlaw1.SpillOrders', WHERE WHAT IT READS IS OF BULK AT MOST 1048576: true; the input reads as it did. -/
def spillOrdersUptoRow : OpenClaim := { program := "ytcdnnklbbnojpaa", sum := "d97355a69dc447e0d1e7f598ac8205e9c83181a0e2fd334c41eccb2252191be9", func := "yardgang/yardlaw1.SpillOrders", spec := "spillOrders", apart := false, narrowed := true }
def SpillOrdersUptoSaid : Prop := spillOrdersUptoRow.holds Try.pinned (OpenSpec.upto spillOrdersSpec)

/-- 'yardlaw4.YardRounds', WHERE WHAT IT READS IS OF BULK AT MOST 1048576: true; the input reads as it did. -/
def yardRoundsUptoRow : OpenClaim := { program := "ytcdnnklbbnojpaa", sum := "d97355a69dc447e0d1e7f598ac8205e9c83181a0e2fd334c41eccb2252191be9", func := "yardgang/yardlaw4.YardRounds", spec := "yardRounds", apart := false, narrowed := true }
def YardRoundsUptoSaid : Prop := yardRoundsUptoRow.holds Try.pinned (OpenSpec.upto yardRoundsSpec)

/-- 'yardlaw3.YardFair', WHERE WHAT IT READS IS OF BULK AT MOST 1048576: true; the input reads as it did. -/
def yardFairUptoRow : OpenClaim := { program := "ytcdnnklbbnojpaa", sum := "d97355a69dc447e0d1e7f598ac8205e9c83181a0e2fd334c41eccb2252191be9", func := "yardgang/yardlaw3.YardFair", spec := "yardFair", apart := false, narrowed := true }
def YardFairUptoSaid : Prop := yardFairUptoRow.holds Try.pinned (OpenSpec.upto yardFairSpec)

/-- 'yardlaw1.HandLast', WHERE WHAT IT READS IS OF BULK AT MOST 1048576: true; the input reads as it did. -/
def handLastUptoRow : OpenClaim := { program := "ytcdnnklbbnojpaa", sum := "d97355a69dc447e0d1e7f598ac8205e9c83181a0e2fd334c41eccb2252191be9", func := "yardgang/yardlaw1.HandLast", spec := "handLast", apart := false, narrowed := true }
def HandLastUptoSaid : Prop := handLastUptoRow.holds Try.pinned (OpenSpec.upto handLastSpec)

end Rows
end Go.Proofs.Ytcdnnklbbnojpaa
