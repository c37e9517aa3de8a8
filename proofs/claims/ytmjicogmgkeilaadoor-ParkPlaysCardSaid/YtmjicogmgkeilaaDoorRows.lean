/-
  NARROWER THAN 'FOR EVERY INPUT', by the rows' own cells (each row's printed sentence says how): SpillFull: laid · PicksNone: laid · RingPlays: laid · GroupsLine: laid · ParkPlays: laid · PicksPlay: laid · SpillPlays: laid · YardTells: laid · HandPlays: laid.
  DERIVED. THE GIVEN ROWS OF THIS SEAT. 9 by the template 'for every input the law returns true; each argument reads behind the call as it read before'; 0 by the template 'total and deterministic' (their statements: YtmjicogmgkeilaaDoorTotals.lean).
  GIVEN WITH THE SEED: the statements are not yours to turn. If you find one false, say at which input.
  Laid BY PROGRAM, IN A SANDBOX (cutbox-rows.mjs): the forced cells as the released guide's own fill.sh prints them over the translation 6ebdea34e4449548… (all of the seat's roots in one cut). By AI agents, Wed Nov 11 2026. No macro, syntax, notation, axiom, sorry.
-/
import Derived.Test.YtmjicogmgkeilaaDoorChecked
import GoSem.Claim
import GoSem.ClaimJoined
import GoSem.ClaimMapViews
import Derived.JoinedTies
import Derived.KernelRfl
namespace Go.Proofs.YtmjicogmgkeilaaDoor
/- THE CELL 'sum', in the pinned program and in every row, IS THE sha256 OF THE DUMP (.gsa) THAT YtmjicogmgkeilaaDoorProg.lean LOADS. Nothing in Lean hashes anything: it is a label: what it is worth is what the hold of that sum in a sandbox is worth. -/
noncomputable def Tryd.pinned : Pinned := { name := "ytmjicogmgkeilaadoor", sum := "6ebdea34e4449548f0849949cc9a392d32857d4dcfc2b547662fa2ba73a6d66f", checked := Tryd.checked }
namespace Rows
def none {H : Type} : Left H := { results := [], args := [] }

/- WHAT THE LISTED PACKAGE-LEVEL VARIABLES READ AS WHEN THE CALL BEGINS. Each datum BY PROGRAM (the guide's laid-datum.mjs) off the statement by which the dump's own 'gosem.cut.vars' lays the variable. In a bare row this is a premise. The card (YtmjicogmgkeilaaDoorCards.lean) ties it to the program's text. -/
def laid_errors_errorType {H : Type} : DataW H := .iface "internal/reflectlite.rtype" (.agg [.ptr (.lit (.string [101, 114, 114, 111, 114]))])

/-- 'yardlaw4.SpillFull': WHATEVER THE INPUT: true; the input reads as it did. -/
def spillFullSpec : ChangeSpec := { name := "spillFull", fn := fun _ => fun
  | [d1, d2] => { results := [.lit (.bool true)], args := [d1, d2] }
  | _ => none }
def spillFullRow : OpenClaim := { program := "ytmjicogmgkeilaadoor", sum := "6ebdea34e4449548f0849949cc9a392d32857d4dcfc2b547662fa2ba73a6d66f", func := "yardgang/yardlaw4.SpillFull", spec := "spillFull", inPlace := ["internal/reflectlite.ValueOf", "(internal/reflectlite.Value).Type", "(internal/reflectlite.Value).IsNil", "internal/reflectlite.TypeOf", "(internal/reflectlite.Value).Elem", "(internal/reflectlite.Value).Set"], unfollowed := true, recurses := true, named := ["errors.errorType"], apart := false, laid := [("errors.errorType", laid_errors_errorType)] }
def SpillFullSaid : Prop := spillFullRow.holds Tryd.pinned (OpenSpec.ofChange spillFullSpec)

/-- ITS FALSE NEIGHBOUR: 'it returns false'. Refute it at one input. -/
def spillFullWrong : ChangeSpec := { name := "spillFull", fn := fun _ => fun
  | [d1, d2] => { results := [.lit (.bool false)], args := [d1, d2] }
  | _ => none }
def SpillFullWrongFalsely : Prop := spillFullRow.holds Tryd.pinned (OpenSpec.ofChange spillFullWrong)

/-- 'yardlaw4.PicksNone': WHATEVER THE INPUT: true; the input reads as it did. -/
def picksNoneSpec : ChangeSpec := { name := "picksNone", fn := fun _ => fun
  | [d] => { results := [.lit (.bool true)], args := [d] }
  | _ => none }
def picksNoneRow : OpenClaim := { program := "ytmjicogmgkeilaadoor", sum := "6ebdea34e4449548f0849949cc9a392d32857d4dcfc2b547662fa2ba73a6d66f", func := "yardgang/yardlaw4.PicksNone", spec := "picksNone", inPlace := ["internal/reflectlite.ValueOf", "(internal/reflectlite.Value).Type", "(internal/reflectlite.Value).IsNil", "internal/reflectlite.TypeOf", "(internal/reflectlite.Value).Elem", "(internal/reflectlite.Value).Set"], unfollowed := true, recurses := true, named := ["errors.errorType"], apart := false, laid := [("errors.errorType", laid_errors_errorType)] }
def PicksNoneSaid : Prop := picksNoneRow.holds Tryd.pinned (OpenSpec.ofChange picksNoneSpec)

/-- ITS FALSE NEIGHBOUR: 'it returns false'. Refute it at one input. -/
def picksNoneWrong : ChangeSpec := { name := "picksNone", fn := fun _ => fun
  | [d] => { results := [.lit (.bool false)], args := [d] }
  | _ => none }
def PicksNoneWrongFalsely : Prop := picksNoneRow.holds Tryd.pinned (OpenSpec.ofChange picksNoneWrong)

/-- 'yardlaw1.RingPlays': WHATEVER THE INPUT: true; the input reads as it did. -/
def ringPlaysSpec : ChangeSpec := { name := "ringPlays", fn := fun _ => fun
  | [d1, d2] => { results := [.lit (.bool true)], args := [d1, d2] }
  | _ => none }
def ringPlaysRow : OpenClaim := { program := "ytmjicogmgkeilaadoor", sum := "6ebdea34e4449548f0849949cc9a392d32857d4dcfc2b547662fa2ba73a6d66f", func := "yardgang/yardlaw1.RingPlays", spec := "ringPlays", inPlace := ["internal/reflectlite.ValueOf", "(internal/reflectlite.Value).Type", "(internal/reflectlite.Value).IsNil", "internal/reflectlite.TypeOf", "(internal/reflectlite.Value).Elem", "(internal/reflectlite.Value).Set"], unfollowed := true, recurses := true, named := ["errors.errorType"], apart := false, laid := [("errors.errorType", laid_errors_errorType)] }
def RingPlaysSaid : Prop := ringPlaysRow.holds Tryd.pinned (OpenSpec.ofChange ringPlaysSpec)

/-- ITS FALSE NEIGHBOUR: 'it returns false'. Refute it at one input. -/
def ringPlaysWrong : ChangeSpec := { name := "ringPlays", fn := fun _ => fun
  | [d1, d2] => { results := [.lit (.bool false)], args := [d1, d2] }
  | _ => none }
def RingPlaysWrongFalsely : Prop := ringPlaysRow.holds Tryd.pinned (OpenSpec.ofChange ringPlaysWrong)

/-- 'yardlaw4.GroupsLine': WHATEVER THE INPUT: true; the input reads as it did. -/
def groupsLineSpec : ChangeSpec := { name := "groupsLine", fn := fun _ => fun
  | [d1, d2] => { results := [.lit (.bool true)], args := [d1, d2] }
  | _ => none }
def groupsLineRow : OpenClaim := { program := "ytmjicogmgkeilaadoor", sum := "6ebdea34e4449548f0849949cc9a392d32857d4dcfc2b547662fa2ba73a6d66f", func := "yardgang/yardlaw4.GroupsLine", spec := "groupsLine", inPlace := ["internal/reflectlite.ValueOf", "(internal/reflectlite.Value).Type", "(internal/reflectlite.Value).IsNil", "internal/reflectlite.TypeOf", "(internal/reflectlite.Value).Elem", "(internal/reflectlite.Value).Set"], unfollowed := true, recurses := true, named := ["errors.errorType"], apart := false, laid := [("errors.errorType", laid_errors_errorType)] }
def GroupsLineSaid : Prop := groupsLineRow.holds Tryd.pinned (OpenSpec.ofChange groupsLineSpec)

/-- ITS FALSE NEIGHBOUR: 'it returns false'. Refute it at one input. -/
def groupsLineWrong : ChangeSpec := { name := "groupsLine", fn := fun _ => fun
  | [d1, d2] => { results := [.lit (.bool false)], args := [d1, d2] }
  | _ => none }
def GroupsLineWrongFalsely : Prop := groupsLineRow.holds Tryd.pinned (OpenSpec.ofChange groupsLineWrong)

/-- 'yardlaw2.ParkPlays': WHATEVER THE INPUT: true; the input reads as it did. -/
def parkPlaysSpec : ChangeSpec := { name := "parkPlays", fn := fun _ => fun
  | [d1, d2] => { results := [.lit (.bool true)], args := [d1, d2] }
  | _ => none }
def parkPlaysRow : OpenClaim := { program := "ytmjicogmgkeilaadoor", sum := "6ebdea34e4449548f0849949cc9a392d32857d4dcfc2b547662fa2ba73a6d66f", func := "yardgang/yardlaw2.ParkPlays", spec := "parkPlays", inPlace := ["internal/reflectlite.ValueOf", "(internal/reflectlite.Value).Type", "(internal/reflectlite.Value).IsNil", "internal/reflectlite.TypeOf", "(internal/reflectlite.Value).Elem", "(internal/reflectlite.Value).Set"], unfollowed := true, recurses := true, named := ["errors.errorType"], apart := false, laid := [("errors.errorType", laid_errors_errorType)] }
def ParkPlaysSaid : Prop := parkPlaysRow.holds Tryd.pinned (OpenSpec.ofChange parkPlaysSpec)

/-- ITS FALSE NEIGHBOUR: 'it returns false'. Refute it at one input. -/
def parkPlaysWrong : ChangeSpec := { name := "parkPlays", fn := fun _ => fun
  | [d1, d2] => { results := [.lit (.bool false)], args := [d1, d2] }
  | _ => none }
def ParkPlaysWrongFalsely : Prop := parkPlaysRow.holds Tryd.pinned (OpenSpec.ofChange parkPlaysWrong)

/-- 'yardlaw1.PicksPlay': WHATEVER THE INPUT: true; the input reads as it did. -/
def picksPlaySpec : ChangeSpec := { name := "picksPlay", fn := fun _ => fun
  | [d1, d2, d3] => { results := [.lit (.bool true)], args := [d1, d2, d3] }
  | _ => none }
def picksPlayRow : OpenClaim := { program := "ytmjicogmgkeilaadoor", sum := "6ebdea34e4449548f0849949cc9a392d32857d4dcfc2b547662fa2ba73a6d66f", func := "yardgang/yardlaw1.PicksPlay", spec := "picksPlay", inPlace := ["internal/reflectlite.ValueOf", "(internal/reflectlite.Value).Type", "(internal/reflectlite.Value).IsNil", "internal/reflectlite.TypeOf", "(internal/reflectlite.Value).Elem", "(internal/reflectlite.Value).Set"], unfollowed := true, recurses := true, named := ["errors.errorType"], apart := false, laid := [("errors.errorType", laid_errors_errorType)] }
def PicksPlaySaid : Prop := picksPlayRow.holds Tryd.pinned (OpenSpec.ofChange picksPlaySpec)

/-- ITS FALSE NEIGHBOUR: 'it returns false'. Refute it at one input. -/
def picksPlayWrong : ChangeSpec := { name := "picksPlay", fn := fun _ => fun
  | [d1, d2, d3] => { results := [.lit (.bool false)], args := [d1, d2, d3] }
  | _ => none }
def PicksPlayWrongFalsely : Prop := picksPlayRow.holds Tryd.pinned (OpenSpec.ofChange picksPlayWrong)

/-- 'yardlaw1.SpillPlays': WHATEVER THE INPUT: true; the input reads as it did. -/
def spillPlaysSpec : ChangeSpec := { name := "spillPlays", fn := fun _ => fun
  | [d1, d2] => { results := [.lit (.bool true)], args := [d1, d2] }
  | _ => none }
def spillPlaysRow : OpenClaim := { program := "ytmjicogmgkeilaadoor", sum := "6ebdea34e4449548f0849949cc9a392d32857d4dcfc2b547662fa2ba73a6d66f", func := "yardgang/yardlaw1.SpillPlays", spec := "spillPlays", inPlace := ["internal/reflectlite.ValueOf", "(internal/reflectlite.Value).Type", "(internal/reflectlite.Value).IsNil", "internal/reflectlite.TypeOf", "(internal/reflectlite.Value).Elem", "(internal/reflectlite.Value).Set"], unfollowed := true, recurses := true, named := ["errors.errorType"], apart := false, laid := [("errors.errorType", laid_errors_errorType)] }
def SpillPlaysSaid : Prop := spillPlaysRow.holds Tryd.pinned (OpenSpec.ofChange spillPlaysSpec)

/-- ITS FALSE NEIGHBOUR: 'it returns false'. Refute it at one input. -/
def spillPlaysWrong : ChangeSpec := { name := "spillPlays", fn := fun _ => fun
  | [d1, d2] => { results := [.lit (.bool false)], args := [d1, d2] }
  | _ => none }
def SpillPlaysWrongFalsely : Prop := spillPlaysRow.holds Tryd.pinned (OpenSpec.ofChange spillPlaysWrong)

/-- 'yardlaw3.YardTells': WHATEVER THE INPUT: true; the input reads as it did. -/
def yardTellsSpec : ChangeSpec := { name := "yardTells", fn := fun _ => fun
  | [d1, d2] => { results := [.lit (.bool true)], args := [d1, d2] }
  | _ => none }
def yardTellsRow : OpenClaim := { program := "ytmjicogmgkeilaadoor", sum := "6ebdea34e4449548f0849949cc9a392d32857d4dcfc2b547662fa2ba73a6d66f", func := "yardgang/yardlaw3.YardTells", spec := "yardTells", inPlace := ["internal/reflectlite.ValueOf", "(internal/reflectlite.Value).Type", "(internal/reflectlite.Value).IsNil", "internal/reflectlite.TypeOf", "(internal/reflectlite.Value).Elem", "(internal/reflectlite.Value).Set"], unfollowed := true, recurses := true, named := ["errors.errorType"], apart := false, laid := [("errors.errorType", laid_errors_errorType)] }
def YardTellsSaid : Prop := yardTellsRow.holds Tryd.pinned (OpenSpec.ofChange yardTellsSpec)

/-- ITS FALSE NEIGHBOUR: 'it returns false'. Refute it at one input. -/
def yardTellsWrong : ChangeSpec := { name := "yardTells", fn := fun _ => fun
  | [d1, d2] => { results := [.lit (.bool false)], args := [d1, d2] }
  | _ => none }
def YardTellsWrongFalsely : Prop := yardTellsRow.holds Tryd.pinned (OpenSpec.ofChange yardTellsWrong)

/-- 'yardlaw1.HandPlays': WHATEVER THE INPUT: true; the input reads as it did. -/
def handPlaysSpec : ChangeSpec := { name := "handPlays", fn := fun _ => fun
  | [d1, d2] => { results := [.lit (.bool true)], args := [d1, d2] }
  | _ => none }
def handPlaysRow : OpenClaim := { program := "ytmjicogmgkeilaadoor", sum := "6ebdea34e4449548f0849949cc9a392d32857d4dcfc2b547662fa2ba73a6d66f", func := "yardgang/yardlaw1.HandPlays", spec := "handPlays", inPlace := ["internal/reflectlite.ValueOf", "(internal/reflectlite.Value).Type", "(internal/reflectlite.Value).IsNil", "internal/reflectlite.TypeOf", "(internal/reflectlite.Value).Elem", "(internal/reflectlite.Value).Set"], unfollowed := true, recurses := true, named := ["errors.errorType"], apart := false, laid := [("errors.errorType", laid_errors_errorType)] }
def HandPlaysSaid : Prop := handPlaysRow.holds Tryd.pinned (OpenSpec.ofChange handPlaysSpec)

/-- ITS FALSE NEIGHBOUR: 'it returns false'. Refute it at one input. -/
def handPlaysWrong : ChangeSpec := { name := "handPlays", fn := fun _ => fun
  | [d1, d2] => { results := [.lit (.bool false)], args := [d1, d2] }
  | _ => none }
def HandPlaysWrongFalsely : Prop := handPlaysRow.holds Tryd.pinned (OpenSpec.ofChange handPlaysWrong)

/- THE SECOND FORM. 'bulk': how many values and letters a reading holds, each counted each time it is reached (what is shared counts as often as it is met; a slice's spare places count too). A statement '..UptoSaid' is the law's where the arguments, and the package variables that the reading takes, are together of bulk at most 1048576: NARROWER than '..Said'. Prove '..Said' where nothing that the law and all that it calls make is longer than what came in: it says more and counts as full. Else prove '..UptoSaid'. A law counts once. -/
mutual
def uptoBulk {H : Type} : DataW H → Nat
  | .lit (.string bytes) => bytes.length + 1
  | .lit _ => 1
  | .nil => 1
  | .ptr d => uptoBulk d + 1
  | .slice elems spare => uptoBulkAll elems + uptoBulkAll spare + 1
  | .agg parts => uptoBulkAll parts + 1
  | .iface _ d => uptoBulk d + 1
  | .map entries => uptoBulkEntries entries + 1
  | .held _ => 1
def uptoBulkAll {H : Type} : List (DataW H) → Nat
  | [] => 0
  | d :: r => uptoBulk d + uptoBulkAll r
def uptoBulkEntries {H : Type} : List (Lit × DataW H) → Nat
  | [] => 0
  | x :: r => uptoBulkEntry x + uptoBulkEntries r
def uptoBulkEntry {H : Type} : Lit × DataW H → Nat
  | (.string bytes, d) => bytes.length + uptoBulk d + 1
  | (_, d) => uptoBulk d + 1
 end
def uptoSmall : (H : Type) → List (DataW H) → Bool := fun _ ds => decide (uptoBulkAll ds ≤ 1048576)
def OpenSpec.upto (s : _root_.Go.ChangeSpec) : _root_.Go.OpenSpec := { _root_.Go.OpenSpec.ofChange s with cond := some uptoSmall }

/-- 'yardlaw4.SpillFull', WHERE WHAT IT READS IS OF BULK AT MOST 1048576: true; the input reads as it did. -/
def spillFullUptoRow : OpenClaim := { program := "ytmjicogmgkeilaadoor", sum := "6ebdea34e4449548f0849949cc9a392d32857d4dcfc2b547662fa2ba73a6d66f", func := "yardgang/yardlaw4.SpillFull", spec := "spillFull", inPlace := ["internal/reflectlite.ValueOf", "(internal/reflectlite.Value).Type", "(internal/reflectlite.Value).IsNil", "internal/reflectlite.TypeOf", "(internal/reflectlite.Value).Elem", "(internal/reflectlite.Value).Set"], unfollowed := true, recurses := true, named := ["errors.errorType"], apart := false, laid := [("errors.errorType", laid_errors_errorType)], narrowed := true }
def SpillFullUptoSaid : Prop := spillFullUptoRow.holds Tryd.pinned (OpenSpec.upto spillFullSpec)

/-- 'yardlaw4.PicksNone', WHERE WHAT IT READS IS OF BULK AT MOST 1048576: true; the input reads as it did. -/
def picksNoneUptoRow : OpenClaim := { program := "ytmjicogmgkeilaadoor", sum := "6ebdea34e4449548f0849949cc9a392d32857d4dcfc2b547662fa2ba73a6d66f", func := "yardgang/yardlaw4.PicksNone", spec := "picksNone", inPlace := ["internal/reflectlite.ValueOf", "(internal/reflectlite.Value).Type", "(internal/reflectlite.Value).IsNil", "internal/reflectlite.TypeOf", "(internal/reflectlite.Value).Elem", "(internal/reflectlite.Value).Set"], unfollowed := true, recurses := true, named := ["errors.errorType"], apart := false, laid := [("errors.errorType", laid_errors_errorType)], narrowed := true }
def PicksNoneUptoSaid : Prop := picksNoneUptoRow.holds Tryd.pinned (OpenSpec.upto picksNoneSpec)

/-- 'yardlaw1.RingPlays', WHERE WHAT IT READS IS OF BULK AT MOST 1048576: true; the input reads as it did. -/
def ringPlaysUptoRow : OpenClaim := { program := "ytmjicogmgkeilaadoor", sum := "6ebdea34e4449548f0849949cc9a392d32857d4dcfc2b547662fa2ba73a6d66f", func := "yardgang/yardlaw1.RingPlays", spec := "ringPlays", inPlace := ["internal/reflectlite.ValueOf", "(internal/reflectlite.Value).Type", "(internal/reflectlite.Value).IsNil", "internal/reflectlite.TypeOf", "(internal/reflectlite.Value).Elem", "(internal/reflectlite.Value).Set"], unfollowed := true, recurses := true, named := ["errors.errorType"], apart := false, laid := [("errors.errorType", laid_errors_errorType)], narrowed := true }
def RingPlaysUptoSaid : Prop := ringPlaysUptoRow.holds Tryd.pinned (OpenSpec.upto ringPlaysSpec)

/-- 'yardlaw4.GroupsLine', WHERE WHAT IT READS IS OF BULK AT MOST 1048576: true; the input reads as it did. -/
def groupsLineUptoRow : OpenClaim := { program := "ytmjicogmgkeilaadoor", sum := "6ebdea34e4449548f0849949cc9a392d32857d4dcfc2b547662fa2ba73a6d66f", func := "yardgang/yardlaw4.GroupsLine", spec := "groupsLine", inPlace := ["internal/reflectlite.ValueOf", "(internal/reflectlite.Value).Type", "(internal/reflectlite.Value).IsNil", "internal/reflectlite.TypeOf", "(internal/reflectlite.Value).Elem", "(internal/reflectlite.Value).Set"], unfollowed := true, recurses := true, named := ["errors.errorType"], apart := false, laid := [("errors.errorType", laid_errors_errorType)], narrowed := true }
def GroupsLineUptoSaid : Prop := groupsLineUptoRow.holds Tryd.pinned (OpenSpec.upto groupsLineSpec)

/-- 'yardlaw2.ParkPlays', WHERE WHAT IT READS IS OF BULK AT MOST 1048576: true; the input reads as it did. -/
def parkPlaysUptoRow : OpenClaim := { program := "ytmjicogmgkeilaadoor", sum := "6ebdea34e4449548f0849949cc9a392d32857d4dcfc2b547662fa2ba73a6d66f", func := "yardgang/yardlaw2.ParkPlays", spec := "parkPlays", inPlace := ["internal/reflectlite.ValueOf", "(internal/reflectlite.Value).Type", "(internal/reflectlite.Value).IsNil", "internal/reflectlite.TypeOf", "(internal/reflectlite.Value).Elem", "(internal/reflectlite.Value).Set"], unfollowed := true, recurses := true, named := ["errors.errorType"], apart := false, laid := [("errors.errorType", laid_errors_errorType)], narrowed := true }
def ParkPlaysUptoSaid : Prop := parkPlaysUptoRow.holds Tryd.pinned (OpenSpec.upto parkPlaysSpec)

/-- 'yardlaw1.PicksPlay', WHERE WHAT IT READS IS OF BULK AT MOST 1048576: true; the input reads as it did. -/
def picksPlayUptoRow : OpenClaim := { program := "ytmjicogmgkeilaadoor", sum := "6ebdea34e4449548f0849949cc9a392d32857d4dcfc2b547662fa2ba73a6d66f", func := "yardgang/yardlaw1.PicksPlay", spec := "picksPlay", inPlace := ["internal/reflectlite.ValueOf", "(internal/reflectlite.Value).Type", "(internal/reflectlite.Value).IsNil", "internal/reflectlite.TypeOf", "(internal/reflectlite.Value).Elem", "(internal/reflectlite.Value).Set"], unfollowed := true, recurses := true, named := ["errors.errorType"], apart := false, laid := [("errors.errorType", laid_errors_errorType)], narrowed := true }
def PicksPlayUptoSaid : Prop := picksPlayUptoRow.holds Tryd.pinned (OpenSpec.upto picksPlaySpec)

/-- 'yardlaw1.SpillPlays', WHERE WHAT IT READS IS OF BULK AT MOST 1048576: true; the input reads as it did. -/
def spillPlaysUptoRow : OpenClaim := { program := "ytmjicogmgkeilaadoor", sum := "6ebdea34e4449548f0849949cc9a392d32857d4dcfc2b547662fa2ba73a6d66f", func := "yardgang/yardlaw1.SpillPlays", spec := "spillPlays", inPlace := ["internal/reflectlite.ValueOf", "(internal/reflectlite.Value).Type", "(internal/reflectlite.Value).IsNil", "internal/reflectlite.TypeOf", "(internal/reflectlite.Value).Elem", "(internal/reflectlite.Value).Set"], unfollowed := true, recurses := true, named := ["errors.errorType"], apart := false, laid := [("errors.errorType", laid_errors_errorType)], narrowed := true }
def SpillPlaysUptoSaid : Prop := spillPlaysUptoRow.holds Tryd.pinned (OpenSpec.upto spillPlaysSpec)

/-- 'yardlaw3.YardTells', WHERE WHAT IT READS IS OF BULK AT MOST 1048576: true; the input reads as it did. -/
def yardTellsUptoRow : OpenClaim := { program := "ytmjicogmgkeilaadoor", sum := "6ebdea34e4449548f0849949cc9a392d32857d4dcfc2b547662fa2ba73a6d66f", func := "yardgang/yardlaw3.YardTells", spec := "yardTells", inPlace := ["internal/reflectlite.ValueOf", "(internal/reflectlite.Value).Type", "(internal/reflectlite.Value).IsNil", "internal/reflectlite.TypeOf", "(internal/reflectlite.Value).Elem", "(internal/reflectlite.Value).Set"], unfollowed := true, recurses := true, named := ["errors.errorType"], apart := false, laid := [("errors.errorType", laid_errors_errorType)], narrowed := true }
def YardTellsUptoSaid : Prop := yardTellsUptoRow.holds Tryd.pinned (OpenSpec.upto yardTellsSpec)

/-- 'yardlaw1.HandPlays', WHERE WHAT IT READS IS OF BULK AT MOST 1048576: true; the input reads as it did. -/
def handPlaysUptoRow : OpenClaim := { program := "ytmjicogmgkeilaadoor", sum := "6ebdea34e4449548f0849949cc9a392d32857d4dcfc2b547662fa2ba73a6d66f", func := "yardgang/yardlaw1.HandPlays", spec := "handPlays", inPlace := ["internal/reflectlite.ValueOf", "(internal/reflectlite.Value).Type", "(internal/reflectlite.Value).IsNil", "internal/reflectlite.TypeOf", "(internal/reflectlite.Value).Elem", "(internal/reflectlite.Value).Set"], unfollowed := true, recurses := true, named := ["errors.errorType"], apart := false, laid := [("errors.errorType", laid_errors_errorType)], narrowed := true }
def HandPlaysUptoSaid : Prop := handPlaysUptoRow.holds Tryd.pinned (OpenSpec.upto handPlaysSpec)

end Rows
end Go.Proofs.YtmjicogmgkeilaaDoor
