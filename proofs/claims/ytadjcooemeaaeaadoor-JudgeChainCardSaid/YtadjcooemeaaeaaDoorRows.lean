/-
  NARROWER THAN 'FOR EVERY INPUT', by the rows' own cells (each row's printed sentence says how): SpillPlays: laid · PlanRing: laid · JudgeChain: laid · GroupsTell: laid · JoinPlays: laid · JudgeTells: laid · JudgeSame: laid · BenchTells: laid · GreedyTells: laid · DepthTells: laid.
  DERIVED. THE GIVEN ROWS OF THIS SEAT. 10 by the template 'for every input the law returns true; each argument reads behind the call as it read before'; 0 by the template 'total and deterministic' (their statements: YtadjcooemeaaeaaDoorTotals.lean).
  GIVEN WITH THE SEED: the statements are not yours to turn. If you find one false, say at which input.
  Laid BY PROGRAM, IN A SANDBOX (cutbox-rows.mjs): the forced cells as the released guide's own fill.sh prints them over the translation e3ccf2b4ac4915ae… (all of the seat's roots in one cut). By AI agents, Wed Nov 11 2026. No macro, syntax, notation, axiom, sorry.
-/
import Derived.Test.YtadjcooemeaaeaaDoorChecked
import GoSem.Claim
import GoSem.ClaimJoined
import GoSem.ClaimMapViews
import Derived.JoinedTies
import Derived.KernelRfl
namespace Go.Proofs.YtadjcooemeaaeaaDoor
/- THE CELL 'sum', in the pinned program and in every row, IS THE sha256 OF THE DUMP (.gsa) THAT YtadjcooemeaaeaaDoorProg.lean LOADS. Nothing in Lean hashes anything: it is a label: what it is worth is what the hold of that sum in a sandbox is worth. -/
noncomputable def Tryd.pinned : Pinned := { name := "ytadjcooemeaaeaadoor", sum := "e3ccf2b4ac4915ae4ea261f186456bd3fedaff4177c6719d1164866c74f39039", checked := Tryd.checked }
namespace Rows
def none {H : Type} : Left H := { results := [], args := [] }

/- WHAT THE LISTED PACKAGE-LEVEL VARIABLES READ AS WHEN THE CALL BEGINS. Each datum BY PROGRAM (the guide's laid-datum.mjs) off the statement by which the dump's own 'gosem.cut.vars' lays the variable. In a bare row this is a premise. The card (YtadjcooemeaaeaaDoorCards.lean) ties it to the program's text. -/
def laid_errors_errorType {H : Type} : DataW H := .iface "internal/reflectlite.rtype" (.agg [.ptr (.lit (.string [101, 114, 114, 111, 114]))])

/-- 'yardlaw1.SpillPlays': WHATEVER THE INPUT: true; the input reads as it did. -/
def spillPlaysSpec : ChangeSpec := { name := "spillPlays", fn := fun _ => fun
  | [d1, d2] => { results := [.lit (.bool true)], args := [d1, d2] }
  | _ => none }
def spillPlaysRow : OpenClaim := { program := "ytadjcooemeaaeaadoor", sum := "e3ccf2b4ac4915ae4ea261f186456bd3fedaff4177c6719d1164866c74f39039", func := "yardgang/yardlaw1.SpillPlays", spec := "spillPlays", inPlace := ["internal/reflectlite.ValueOf", "(internal/reflectlite.Value).Type", "(internal/reflectlite.Value).IsNil", "internal/reflectlite.TypeOf", "(internal/reflectlite.Value).Elem", "(internal/reflectlite.Value).Set"], unfollowed := true, recurses := true, named := ["errors.errorType"], plainKeys := false, apart := false, laid := [("errors.errorType", laid_errors_errorType)] }
def SpillPlaysSaid : Prop := spillPlaysRow.holds Tryd.pinned (OpenSpec.ofChange spillPlaysSpec)

/-- ITS FALSE NEIGHBOUR: 'it returns false'. Refute it at one input. -/
def spillPlaysWrong : ChangeSpec := { name := "spillPlays", fn := fun _ => fun
  | [d1, d2] => { results := [.lit (.bool false)], args := [d1, d2] }
  | _ => none }
def SpillPlaysWrongFalsely : Prop := spillPlaysRow.holds Tryd.pinned (OpenSpec.ofChange spillPlaysWrong)

/-- 'yardlaw4.PlanRing': WHATEVER THE INPUT: true; the input reads as it did. -/
def planRingSpec : ChangeSpec := { name := "planRing", fn := fun _ => fun
  | [d1, d2] => { results := [.lit (.bool true)], args := [d1, d2] }
  | _ => none }
def planRingRow : OpenClaim := { program := "ytadjcooemeaaeaadoor", sum := "e3ccf2b4ac4915ae4ea261f186456bd3fedaff4177c6719d1164866c74f39039", func := "yardgang/yardlaw4.PlanRing", spec := "planRing", inPlace := ["internal/reflectlite.ValueOf", "(internal/reflectlite.Value).Type", "(internal/reflectlite.Value).IsNil", "internal/reflectlite.TypeOf", "(internal/reflectlite.Value).Elem", "(internal/reflectlite.Value).Set"], unfollowed := true, recurses := true, named := ["errors.errorType"], plainKeys := false, apart := false, laid := [("errors.errorType", laid_errors_errorType)] }
def PlanRingSaid : Prop := planRingRow.holds Tryd.pinned (OpenSpec.ofChange planRingSpec)

/-- ITS FALSE NEIGHBOUR: 'it returns false'. Refute it at one input. -/
def planRingWrong : ChangeSpec := { name := "planRing", fn := fun _ => fun
  | [d1, d2] => { results := [.lit (.bool false)], args := [d1, d2] }
  | _ => none }
def PlanRingWrongFalsely : Prop := planRingRow.holds Tryd.pinned (OpenSpec.ofChange planRingWrong)

/-- 'yardlaw4.JudgeChain': WHATEVER THE INPUT: true; the input reads as it did. -/
def judgeChainSpec : ChangeSpec := { name := "judgeChain", fn := fun _ => fun
  | [d1, d2, d3] => { results := [.lit (.bool true)], args := [d1, d2, d3] }
  | _ => none }
def judgeChainRow : OpenClaim := { program := "ytadjcooemeaaeaadoor", sum := "e3ccf2b4ac4915ae4ea261f186456bd3fedaff4177c6719d1164866c74f39039", func := "yardgang/yardlaw4.JudgeChain", spec := "judgeChain", inPlace := ["internal/reflectlite.ValueOf", "(internal/reflectlite.Value).Type", "(internal/reflectlite.Value).IsNil", "internal/reflectlite.TypeOf", "(internal/reflectlite.Value).Elem", "(internal/reflectlite.Value).Set"], unfollowed := true, recurses := true, named := ["errors.errorType"], plainKeys := false, apart := false, laid := [("errors.errorType", laid_errors_errorType)] }
def JudgeChainSaid : Prop := judgeChainRow.holds Tryd.pinned (OpenSpec.ofChange judgeChainSpec)

/-- ITS FALSE NEIGHBOUR: 'it returns false'. Refute it at one input. -/
def judgeChainWrong : ChangeSpec := { name := "judgeChain", fn := fun _ => fun
  | [d1, d2, d3] => { results := [.lit (.bool false)], args := [d1, d2, d3] }
  | _ => none }
def JudgeChainWrongFalsely : Prop := judgeChainRow.holds Tryd.pinned (OpenSpec.ofChange judgeChainWrong)

/-- 'yardlaw3.GroupsTell': WHATEVER THE INPUT: true; the input reads as it did. -/
def groupsTellSpec : ChangeSpec := { name := "groupsTell", fn := fun _ => fun
  | [d1, d2, d3, d4] => { results := [.lit (.bool true)], args := [d1, d2, d3, d4] }
  | _ => none }
def groupsTellRow : OpenClaim := { program := "ytadjcooemeaaeaadoor", sum := "e3ccf2b4ac4915ae4ea261f186456bd3fedaff4177c6719d1164866c74f39039", func := "yardgang/yardlaw3.GroupsTell", spec := "groupsTell", inPlace := ["internal/reflectlite.ValueOf", "(internal/reflectlite.Value).Type", "(internal/reflectlite.Value).IsNil", "internal/reflectlite.TypeOf", "(internal/reflectlite.Value).Elem", "(internal/reflectlite.Value).Set"], unfollowed := true, recurses := true, named := ["errors.errorType"], plainKeys := false, apart := false, laid := [("errors.errorType", laid_errors_errorType)] }
def GroupsTellSaid : Prop := groupsTellRow.holds Tryd.pinned (OpenSpec.ofChange groupsTellSpec)

/-- ITS FALSE NEIGHBOUR: 'it returns false'. Refute it at one input. -/
def groupsTellWrong : ChangeSpec := { name := "groupsTell", fn := fun _ => fun
  | [d1, d2, d3, d4] => { results := [.lit (.bool false)], args := [d1, d2, d3, d4] }
  | _ => none }
def GroupsTellWrongFalsely : Prop := groupsTellRow.holds Tryd.pinned (OpenSpec.ofChange groupsTellWrong)

/-- 'yardlaw1.JoinPlays': WHATEVER THE INPUT: true; the input reads as it did. -/
def joinPlaysSpec : ChangeSpec := { name := "joinPlays", fn := fun _ => fun
  | [d1, d2, d3] => { results := [.lit (.bool true)], args := [d1, d2, d3] }
  | _ => none }
def joinPlaysRow : OpenClaim := { program := "ytadjcooemeaaeaadoor", sum := "e3ccf2b4ac4915ae4ea261f186456bd3fedaff4177c6719d1164866c74f39039", func := "yardgang/yardlaw1.JoinPlays", spec := "joinPlays", inPlace := ["internal/reflectlite.ValueOf", "(internal/reflectlite.Value).Type", "(internal/reflectlite.Value).IsNil", "internal/reflectlite.TypeOf", "(internal/reflectlite.Value).Elem", "(internal/reflectlite.Value).Set"], unfollowed := true, recurses := true, named := ["errors.errorType"], plainKeys := false, apart := false, laid := [("errors.errorType", laid_errors_errorType)] }
def JoinPlaysSaid : Prop := joinPlaysRow.holds Tryd.pinned (OpenSpec.ofChange joinPlaysSpec)

/-- ITS FALSE NEIGHBOUR: 'it returns false'. Refute it at one input. -/
def joinPlaysWrong : ChangeSpec := { name := "joinPlays", fn := fun _ => fun
  | [d1, d2, d3] => { results := [.lit (.bool false)], args := [d1, d2, d3] }
  | _ => none }
def JoinPlaysWrongFalsely : Prop := joinPlaysRow.holds Tryd.pinned (OpenSpec.ofChange joinPlaysWrong)

/-- 'yardlaw2.JudgeTells': WHATEVER THE INPUT: true; the input reads as it did. -/
def judgeTellsSpec : ChangeSpec := { name := "judgeTells", fn := fun _ => fun
  | [d1, d2, d3, d4] => { results := [.lit (.bool true)], args := [d1, d2, d3, d4] }
  | _ => none }
def judgeTellsRow : OpenClaim := { program := "ytadjcooemeaaeaadoor", sum := "e3ccf2b4ac4915ae4ea261f186456bd3fedaff4177c6719d1164866c74f39039", func := "yardgang/yardlaw2.JudgeTells", spec := "judgeTells", inPlace := ["internal/reflectlite.ValueOf", "(internal/reflectlite.Value).Type", "(internal/reflectlite.Value).IsNil", "internal/reflectlite.TypeOf", "(internal/reflectlite.Value).Elem", "(internal/reflectlite.Value).Set"], unfollowed := true, recurses := true, named := ["errors.errorType"], plainKeys := false, apart := false, laid := [("errors.errorType", laid_errors_errorType)] }
def JudgeTellsSaid : Prop := judgeTellsRow.holds Tryd.pinned (OpenSpec.ofChange judgeTellsSpec)

/-- ITS FALSE NEIGHBOUR: 'it returns false'. Refute it at one input. -/
def judgeTellsWrong : ChangeSpec := { name := "judgeTells", fn := fun _ => fun
  | [d1, d2, d3, d4] => { results := [.lit (.bool false)], args := [d1, d2, d3, d4] }
  | _ => none }
def JudgeTellsWrongFalsely : Prop := judgeTellsRow.holds Tryd.pinned (OpenSpec.ofChange judgeTellsWrong)

/-- 'yardlaw2.JudgeSame': WHATEVER THE INPUT: true; the input reads as it did. -/
def judgeSameSpec : ChangeSpec := { name := "judgeSame", fn := fun _ => fun
  | [d1, d2, d3, d4] => { results := [.lit (.bool true)], args := [d1, d2, d3, d4] }
  | _ => none }
def judgeSameRow : OpenClaim := { program := "ytadjcooemeaaeaadoor", sum := "e3ccf2b4ac4915ae4ea261f186456bd3fedaff4177c6719d1164866c74f39039", func := "yardgang/yardlaw2.JudgeSame", spec := "judgeSame", inPlace := ["internal/reflectlite.ValueOf", "(internal/reflectlite.Value).Type", "(internal/reflectlite.Value).IsNil", "internal/reflectlite.TypeOf", "(internal/reflectlite.Value).Elem", "(internal/reflectlite.Value).Set"], unfollowed := true, recurses := true, named := ["errors.errorType"], plainKeys := false, apart := false, laid := [("errors.errorType", laid_errors_errorType)] }
def JudgeSameSaid : Prop := judgeSameRow.holds Tryd.pinned (OpenSpec.ofChange judgeSameSpec)

/-- ITS FALSE NEIGHBOUR: 'it returns false'. Refute it at one input. -/
def judgeSameWrong : ChangeSpec := { name := "judgeSame", fn := fun _ => fun
  | [d1, d2, d3, d4] => { results := [.lit (.bool false)], args := [d1, d2, d3, d4] }
  | _ => none }
def JudgeSameWrongFalsely : Prop := judgeSameRow.holds Tryd.pinned (OpenSpec.ofChange judgeSameWrong)

/-- 'yardlaw3.BenchTells': WHATEVER THE INPUT: true; the input reads as it did. -/
def benchTellsSpec : ChangeSpec := { name := "benchTells", fn := fun _ => fun
  | [d1, d2, d3] => { results := [.lit (.bool true)], args := [d1, d2, d3] }
  | _ => none }
def benchTellsRow : OpenClaim := { program := "ytadjcooemeaaeaadoor", sum := "e3ccf2b4ac4915ae4ea261f186456bd3fedaff4177c6719d1164866c74f39039", func := "yardgang/yardlaw3.BenchTells", spec := "benchTells", inPlace := ["internal/reflectlite.ValueOf", "(internal/reflectlite.Value).Type", "(internal/reflectlite.Value).IsNil", "internal/reflectlite.TypeOf", "(internal/reflectlite.Value).Elem", "(internal/reflectlite.Value).Set"], unfollowed := true, recurses := true, named := ["errors.errorType"], plainKeys := false, apart := false, laid := [("errors.errorType", laid_errors_errorType)] }
def BenchTellsSaid : Prop := benchTellsRow.holds Tryd.pinned (OpenSpec.ofChange benchTellsSpec)

/-- ITS FALSE NEIGHBOUR: 'it returns false'. Refute it at one input. -/
def benchTellsWrong : ChangeSpec := { name := "benchTells", fn := fun _ => fun
  | [d1, d2, d3] => { results := [.lit (.bool false)], args := [d1, d2, d3] }
  | _ => none }
def BenchTellsWrongFalsely : Prop := benchTellsRow.holds Tryd.pinned (OpenSpec.ofChange benchTellsWrong)

/-- 'yardlaw2.GreedyTells': WHATEVER THE INPUT: true; the input reads as it did. -/
def greedyTellsSpec : ChangeSpec := { name := "greedyTells", fn := fun _ => fun
  | [d1, d2] => { results := [.lit (.bool true)], args := [d1, d2] }
  | _ => none }
def greedyTellsRow : OpenClaim := { program := "ytadjcooemeaaeaadoor", sum := "e3ccf2b4ac4915ae4ea261f186456bd3fedaff4177c6719d1164866c74f39039", func := "yardgang/yardlaw2.GreedyTells", spec := "greedyTells", inPlace := ["internal/reflectlite.ValueOf", "(internal/reflectlite.Value).Type", "(internal/reflectlite.Value).IsNil", "internal/reflectlite.TypeOf", "(internal/reflectlite.Value).Elem", "(internal/reflectlite.Value).Set"], unfollowed := true, recurses := true, named := ["errors.errorType"], plainKeys := false, apart := false, laid := [("errors.errorType", laid_errors_errorType)] }
def GreedyTellsSaid : Prop := greedyTellsRow.holds Tryd.pinned (OpenSpec.ofChange greedyTellsSpec)

/-- ITS FALSE NEIGHBOUR: 'it returns false'. Refute it at one input. -/
def greedyTellsWrong : ChangeSpec := { name := "greedyTells", fn := fun _ => fun
  | [d1, d2] => { results := [.lit (.bool false)], args := [d1, d2] }
  | _ => none }
def GreedyTellsWrongFalsely : Prop := greedyTellsRow.holds Tryd.pinned (OpenSpec.ofChange greedyTellsWrong)

/-- 'yardlaw1.DepthTells': WHATEVER THE INPUT: true; the input reads as it did. -/
def depthTellsSpec : ChangeSpec := { name := "depthTells", fn := fun _ => fun
  | [d1, d2, d3] => { results := [.lit (.bool true)], args := [d1, d2, d3] }
  | _ => none }
def depthTellsRow : OpenClaim := { program := "ytadjcooemeaaeaadoor", sum := "e3ccf2b4ac4915ae4ea261f186456bd3fedaff4177c6719d1164866c74f39039", func := "yardgang/yardlaw1.DepthTells", spec := "depthTells", inPlace := ["internal/reflectlite.ValueOf", "(internal/reflectlite.Value).Type", "(internal/reflectlite.Value).IsNil", "internal/reflectlite.TypeOf", "(internal/reflectlite.Value).Elem", "(internal/reflectlite.Value).Set"], unfollowed := true, recurses := true, named := ["errors.errorType"], plainKeys := false, apart := false, laid := [("errors.errorType", laid_errors_errorType)] }
def DepthTellsSaid : Prop := depthTellsRow.holds Tryd.pinned (OpenSpec.ofChange depthTellsSpec)

/-- ITS FALSE NEIGHBOUR: 'it returns false'. Refute it at one input. -/
def depthTellsWrong : ChangeSpec := { name := "depthTells", fn := fun _ => fun
  | [d1, d2, d3] => { results := [.lit (.bool false)], args := [d1, d2, d3] }
  | _ => none }
def DepthTellsWrongFalsely : Prop := depthTellsRow.holds Tryd.pinned (OpenSpec.ofChange depthTellsWrong)

/- THE SECOND FORM. 'bulk': how many values and letters a reading holds, each counted each time it is reached (what is shared counts as often as it is met; a slice's spare places count too). A statement '..UptoSaid' is the law's where the arguments, and the package variables that the reading takes, are together of bulk at most 1048576: NARROWER than '..Said'. Prove '..Said' where nothing that the law and all that it calls make is longer than what came in: it says more and counts as full. Else prove '..UptoSaid'. A law counts once. -/
mutual
def uptoBulk {H : Type} : DataW H → Nat
  | .lit (.string bytes) => bytes.length + 1
  | .lit _ => 1
  | .nil => 1
  | .ptr d => uptoBulk d + 1
  | .slice elems spare => uptoBulkAll elems + uptoBulkAll spare + 1
  | .agg parts => uptoBulkAll parts + 1
  | .iface _ d => uptoBulk d + 1
  | .map entries => uptoBulkEntries entries + 1
  | .held _ => 1
def uptoBulkAll {H : Type} : List (DataW H) → Nat
  | [] => 0
  | d :: r => uptoBulk d + uptoBulkAll r
def uptoBulkEntries {H : Type} : List (Lit × DataW H) → Nat
  | [] => 0
  | x :: r => uptoBulkEntry x + uptoBulkEntries r
def uptoBulkEntry {H : Type} : Lit × DataW H → Nat
  | (.string bytes, d) => bytes.length + uptoBulk d + 1
  | (_, d) => uptoBulk d + 1
 end
def uptoSmall : (H : Type) → List (DataW H) → Bool := fun _ ds => decide (uptoBulkAll ds ≤ 1048576)
def OpenSpec.upto (s : _root_.Go.ChangeSpec) : _root_.Go.OpenSpec := { _root_.Go.OpenSpec.ofChange s with cond := some uptoSmall }

/-- 'yardlaw1.SpillPlays', WHERE WHAT IT READS IS OF BULK AT MOST 1048576: true; the input reads as it did. -/
def spillPlaysUptoRow : OpenClaim := { program := "ytadjcooemeaaeaadoor", sum := "e3ccf2b4ac4915ae4ea261f186456bd3fedaff4177c6719d1164866c74f39039", func := "yardgang/yardlaw1.SpillPlays", spec := "spillPlays", inPlace := ["internal/reflectlite.ValueOf", "(internal/reflectlite.Value).Type", "(internal/reflectlite.Value).IsNil", "internal/reflectlite.TypeOf", "(internal/reflectlite.Value).Elem", "(internal/reflectlite.Value).Set"], unfollowed := true, recurses := true, named := ["errors.errorType"], plainKeys := false, apart := false, laid := [("errors.errorType", laid_errors_errorType)], narrowed := true }
def SpillPlaysUptoSaid : Prop := spillPlaysUptoRow.holds Tryd.pinned (OpenSpec.upto spillPlaysSpec)

/-- 'yardlaw4.PlanRing', WHERE WHAT IT READS IS OF BULK AT MOST 1048576: true; the input reads as it did. -/
def planRingUptoRow : OpenClaim := { program := "ytadjcooemeaaeaadoor", sum := "e3ccf2b4ac4915ae4ea261f186456bd3fedaff4177c6719d1164866c74f39039", func := "yardgang/yardlaw4.PlanRing", spec := "planRing", inPlace := ["internal/reflectlite.ValueOf", "(internal/reflectlite.Value).Type", "(internal/reflectlite.Value).IsNil", "internal/reflectlite.TypeOf", "(internal/reflectlite.Value).Elem", "(internal/reflectlite.Value).Set"], unfollowed := true, recurses := true, named := ["errors.errorType"], plainKeys := false, apart := false, laid := [("errors.errorType", laid_errors_errorType)], narrowed := true }
def PlanRingUptoSaid : Prop := planRingUptoRow.holds Tryd.pinned (OpenSpec.upto planRingSpec)

/-- 'yardlaw4.JudgeChain', WHERE WHAT IT READS IS OF BULK AT MOST 1048576: true; the input reads as it did. -/
def judgeChainUptoRow : OpenClaim := { program := "ytadjcooemeaaeaadoor", sum := "e3ccf2b4ac4915ae4ea261f186456bd3fedaff4177c6719d1164866c74f39039", func := "yardgang/yardlaw4.JudgeChain", spec := "judgeChain", inPlace := ["internal/reflectlite.ValueOf", "(internal/reflectlite.Value).Type", "(internal/reflectlite.Value).IsNil", "internal/reflectlite.TypeOf", "(internal/reflectlite.Value).Elem", "(internal/reflectlite.Value).Set"], unfollowed := true, recurses := true, named := ["errors.errorType"], plainKeys := false, apart := false, laid := [("errors.errorType", laid_errors_errorType)], narrowed := true }
def JudgeChainUptoSaid : Prop := judgeChainUptoRow.holds Tryd.pinned (OpenSpec.upto judgeChainSpec)

/-- 'yardlaw3.GroupsTell', WHERE WHAT IT READS IS OF BULK AT MOST 1048576: true; the input reads as it did. -/
def groupsTellUptoRow : OpenClaim := { program := "ytadjcooemeaaeaadoor", sum := "e3ccf2b4ac4915ae4ea261f186456bd3fedaff4177c6719d1164866c74f39039", func := "yardgang/yardlaw3.GroupsTell", spec := "groupsTell", inPlace := ["internal/reflectlite.ValueOf", "(internal/reflectlite.Value).Type", "(internal/reflectlite.Value).IsNil", "internal/reflectlite.TypeOf", "(internal/reflectlite.Value).Elem", "(internal/reflectlite.Value).Set"], unfollowed := true, recurses := true, named := ["errors.errorType"], plainKeys := false, apart := false, laid := [("errors.errorType", laid_errors_errorType)], narrowed := true }
def GroupsTellUptoSaid : Prop := groupsTellUptoRow.holds Tryd.pinned (OpenSpec.upto groupsTellSpec)

/-- 'yardlaw1.JoinPlays', WHERE WHAT IT READS IS OF BULK AT MOST 1048576: true; the input reads as it did. -/
def joinPlaysUptoRow : OpenClaim := { program := "ytadjcooemeaaeaadoor", sum := "e3ccf2b4ac4915ae4ea261f186456bd3fedaff4177c6719d1164866c74f39039", func := "yardgang/yardlaw1.JoinPlays", spec := "joinPlays", inPlace := ["internal/reflectlite.ValueOf", "(internal/reflectlite.Value).Type", "(internal/reflectlite.Value).IsNil", "internal/reflectlite.TypeOf", "(internal/reflectlite.Value).Elem", "(internal/reflectlite.Value).Set"], unfollowed := true, recurses := true, named := ["errors.errorType"], plainKeys := false, apart := false, laid := [("errors.errorType", laid_errors_errorType)], narrowed := true }
def JoinPlaysUptoSaid : Prop := joinPlaysUptoRow.holds Tryd.pinned (OpenSpec.upto joinPlaysSpec)

/-- 'yardlaw2.JudgeTells', WHERE WHAT IT READS IS OF BULK AT MOST 1048576: true; the input reads as it did. -/
def judgeTellsUptoRow : OpenClaim := { program := "ytadjcooemeaaeaadoor", sum := "e3ccf2b4ac4915ae4ea261f186456bd3fedaff4177c6719d1164866c74f39039", func := "yardgang/yardlaw2.JudgeTells", spec := "judgeTells", inPlace := ["internal/reflectlite.ValueOf", "(internal/reflectlite.Value).Type", "(internal/reflectlite.Value).IsNil", "internal/reflectlite.TypeOf", "(internal/reflectlite.Value).Elem", "(internal/reflectlite.Value).Set"], unfollowed := true, recurses := true, named := ["errors.errorType"], plainKeys := false, apart := false, laid := [("errors.errorType", laid_errors_errorType)], narrowed := true }
def JudgeTellsUptoSaid : Prop := judgeTellsUptoRow.holds Tryd.pinned (OpenSpec.upto judgeTellsSpec)

/-- 'yardlaw2.JudgeSame', WHERE WHAT IT READS IS OF BULK AT MOST 1048576: true; the input reads as it did. -/
def judgeSameUptoRow : OpenClaim := { program := "ytadjcooemeaaeaadoor", sum := "e3ccf2b4ac4915ae4ea261f186456bd3fedaff4177c6719d1164866c74f39039", func := "yardgang/yardlaw2.JudgeSame", spec := "judgeSame", inPlace := ["internal/reflectlite.ValueOf", "(internal/reflectlite.Value).Type", "(internal/reflectlite.Value).IsNil", "internal/reflectlite.TypeOf", "(internal/reflectlite.Value).Elem", "(internal/reflectlite.Value).Set"], unfollowed := true, recurses := true, named := ["errors.errorType"], plainKeys := false, apart := false, laid := [("errors.errorType", laid_errors_errorType)], narrowed := true }
def JudgeSameUptoSaid : Prop := judgeSameUptoRow.holds Tryd.pinned (OpenSpec.upto judgeSameSpec)

/-- 'yardlaw3.BenchTells', WHERE WHAT IT READS IS OF BULK AT MOST 1048576: true; the input reads as it did. -/
def benchTellsUptoRow : OpenClaim := { program := "ytadjcooemeaaeaadoor", sum := "e3ccf2b4ac4915ae4ea261f186456bd3fedaff4177c6719d1164866c74f39039", func := "yardgang/yardlaw3.BenchTells", spec := "benchTells", inPlace := ["internal/reflectlite.ValueOf", "(internal/reflectlite.Value).Type", "(internal/reflectlite.Value).IsNil", "internal/reflectlite.TypeOf", "(internal/reflectlite.Value).Elem", "(internal/reflectlite.Value).Set"], unfollowed := true, recurses := true, named := ["errors.errorType"], plainKeys := false, apart := false, laid := [("errors.errorType", laid_errors_errorType)], narrowed := true }
def BenchTellsUptoSaid : Prop := benchTellsUptoRow.holds Tryd.pinned (OpenSpec.upto benchTellsSpec)

/-- 'yardlaw2.GreedyTells', WHERE WHAT IT READS IS OF BULK AT MOST 1048576: true; the input reads as it did. -/
def greedyTellsUptoRow : OpenClaim := { program := "ytadjcooemeaaeaadoor", sum := "e3ccf2b4ac4915ae4ea261f186456bd3fedaff4177c6719d1164866c74f39039", func := "yardgang/yardlaw2.GreedyTells", spec := "greedyTells", inPlace := ["internal/reflectlite.ValueOf", "(internal/reflectlite.Value).Type", "(internal/reflectlite.Value).IsNil", "internal/reflectlite.TypeOf", "(internal/reflectlite.Value).Elem", "(internal/reflectlite.Value).Set"], unfollowed := true, recurses := true, named := ["errors.errorType"], plainKeys := false, apart := false, laid := [("errors.errorType", laid_errors_errorType)], narrowed := true }
def GreedyTellsUptoSaid : Prop := greedyTellsUptoRow.holds Tryd.pinned (OpenSpec.upto greedyTellsSpec)

/-- 'yardlaw1.DepthTells', WHERE WHAT IT READS IS OF BULK AT MOST 1048576: true; the input reads as it did. -/
def depthTellsUptoRow : OpenClaim := { program := "ytadjcooemeaaeaadoor", sum := "e3ccf2b4ac4915ae4ea261f186456bd3fedaff4177c6719d1164866c74f39039", func := "yardgang/yardlaw1.DepthTells", spec := "depthTells", inPlace := ["internal/reflectlite.ValueOf", "(internal/reflectlite.Value).Type", "(internal/reflectlite.Value).IsNil", "internal/reflectlite.TypeOf", "(internal/reflectlite.Value).Elem", "(internal/reflectlite.Value).Set"], unfollowed := true, recurses := true, named := ["errors.errorType"], plainKeys := false, apart := false, laid := [("errors.errorType", laid_errors_errorType)], narrowed := true }
def DepthTellsUptoSaid : Prop := depthTellsUptoRow.holds Tryd.pinned (OpenSpec.upto depthTellsSpec)

end Rows
end Go.Proofs.YtadjcooemeaaeaaDoor
