/-
  DERIVED. GIVEN WITH THE SEED: THE CARDS: each row of YtmjicogmgkeilaaDoorRows.lean that lists a variable, with what it lists TIED to the program's text (the seventh form; the later family's looks); each row that meets fmt, with fmt's text TOLD by the authors' own Lean function (tested against real Go, not proved from fmt's source: count such statements apart). THE CARD IS WHAT COUNTS. Prove the row's statement (the work); the ties are given (YtmjicogmgkeilaaDoorTie.lean); close each card by the builder's one call (the guide's Derived/Test/ToyasCard.lean, 'card_holds'). Laid BY PROGRAM, IN A SANDBOX (cutbox-door.mjs). By AI agents, Wed Nov 11 2026. No macro, syntax, notation, axiom, sorry.
-/
import Derived.Test.YtmjicogmgkeilaaDoorRows
import GoSem.ClaimSeven
namespace Go.Proofs.YtmjicogmgkeilaaDoor
namespace Rows

/-- THE TIED CARD OF 'yardlaw4.SpillFull'. -/
def spillFullCard : Claim7 := { stood := { row := spillFullRow, standIns := [], harness := (true, "4af03e93fabf5b867359eee4df2ca8c6deddf94555a126b5117edd1fee1630cb"), looks := true }, kinds := [], alts := [], laidByText := true, laidKinds := [.handle], laidTests := true, laidLooks := .later }
def SpillFullCardSaid : Prop := Claim7.holds Tryd.pinned (.plain (OpenSpec.ofChange spillFullSpec)) spillFullCard

/-- THE TIED CARD OF 'yardlaw4.PicksNone'. -/
def picksNoneCard : Claim7 := { stood := { row := picksNoneRow, standIns := [], harness := (true, "4af03e93fabf5b867359eee4df2ca8c6deddf94555a126b5117edd1fee1630cb"), looks := true }, kinds := [], alts := [], laidByText := true, laidKinds := [.handle], laidTests := true, laidLooks := .later }
def PicksNoneCardSaid : Prop := Claim7.holds Tryd.pinned (.plain (OpenSpec.ofChange picksNoneSpec)) picksNoneCard

/-- THE TIED CARD OF 'yardlaw1.RingPlays'. -/
def ringPlaysCard : Claim7 := { stood := { row := ringPlaysRow, standIns := [], harness := (true, "4af03e93fabf5b867359eee4df2ca8c6deddf94555a126b5117edd1fee1630cb"), looks := true }, kinds := [], alts := [], laidByText := true, laidKinds := [.handle], laidTests := true, laidLooks := .later }
def RingPlaysCardSaid : Prop := Claim7.holds Tryd.pinned (.plain (OpenSpec.ofChange ringPlaysSpec)) ringPlaysCard

/-- THE TIED CARD OF 'yardlaw4.GroupsLine'. -/
def groupsLineCard : Claim7 := { stood := { row := groupsLineRow, standIns := [], harness := (true, "4af03e93fabf5b867359eee4df2ca8c6deddf94555a126b5117edd1fee1630cb"), looks := true }, kinds := [], alts := [], laidByText := true, laidKinds := [.handle], laidTests := true, laidLooks := .later }
def GroupsLineCardSaid : Prop := Claim7.holds Tryd.pinned (.plain (OpenSpec.ofChange groupsLineSpec)) groupsLineCard

/-- THE TIED CARD OF 'yardlaw2.ParkPlays'. -/
def parkPlaysCard : Claim7 := { stood := { row := parkPlaysRow, standIns := [], harness := (true, "4af03e93fabf5b867359eee4df2ca8c6deddf94555a126b5117edd1fee1630cb"), looks := true }, kinds := [], alts := [], laidByText := true, laidKinds := [.handle], laidTests := true, laidLooks := .later }
def ParkPlaysCardSaid : Prop := Claim7.holds Tryd.pinned (.plain (OpenSpec.ofChange parkPlaysSpec)) parkPlaysCard

/-- THE TIED CARD OF 'yardlaw1.PicksPlay'. -/
def picksPlayCard : Claim7 := { stood := { row := picksPlayRow, standIns := [], harness := (true, "4af03e93fabf5b867359eee4df2ca8c6deddf94555a126b5117edd1fee1630cb"), looks := true }, kinds := [], alts := [], laidByText := true, laidKinds := [.handle], laidTests := true, laidLooks := .later }
def PicksPlayCardSaid : Prop := Claim7.holds Tryd.pinned (.plain (OpenSpec.ofChange picksPlaySpec)) picksPlayCard

/-- THE TIED CARD OF 'yardlaw1.SpillPlays'. -/
def spillPlaysCard : Claim7 := { stood := { row := spillPlaysRow, standIns := [], harness := (true, "4af03e93fabf5b867359eee4df2ca8c6deddf94555a126b5117edd1fee1630cb"), looks := true }, kinds := [], alts := [], laidByText := true, laidKinds := [.handle], laidTests := true, laidLooks := .later }
def SpillPlaysCardSaid : Prop := Claim7.holds Tryd.pinned (.plain (OpenSpec.ofChange spillPlaysSpec)) spillPlaysCard

/-- THE TIED CARD OF 'yardlaw3.YardTells'. -/
def yardTellsCard : Claim7 := { stood := { row := yardTellsRow, standIns := [], harness := (true, "4af03e93fabf5b867359eee4df2ca8c6deddf94555a126b5117edd1fee1630cb"), looks := true }, kinds := [], alts := [], laidByText := true, laidKinds := [.handle], laidTests := true, laidLooks := .later }
def YardTellsCardSaid : Prop := Claim7.holds Tryd.pinned (.plain (OpenSpec.ofChange yardTellsSpec)) yardTellsCard

/-- THE TIED CARD OF 'yardlaw1.HandPlays'. -/
def handPlaysCard : Claim7 := { stood := { row := handPlaysRow, standIns := [], harness := (true, "4af03e93fabf5b867359eee4df2ca8c6deddf94555a126b5117edd1fee1630cb"), looks := true }, kinds := [], alts := [], laidByText := true, laidKinds := [.handle], laidTests := true, laidLooks := .later }
def HandPlaysCardSaid : Prop := Claim7.holds Tryd.pinned (.plain (OpenSpec.ofChange handPlaysSpec)) handPlaysCard

/-- THE SECOND FORM's CARD OF 'yardlaw4.SpillFull'. -/
def spillFullUptoCard : Claim7 := { stood := { row := spillFullUptoRow, standIns := [], harness := (true, "4af03e93fabf5b867359eee4df2ca8c6deddf94555a126b5117edd1fee1630cb"), looks := true }, kinds := [], alts := [], laidByText := true, laidKinds := [.handle], laidTests := true, laidLooks := .later }
def SpillFullUptoCardSaid : Prop := Claim7.holds Tryd.pinned (.plain (OpenSpec.upto spillFullSpec)) spillFullUptoCard

/-- THE SECOND FORM's CARD OF 'yardlaw4.PicksNone'. -/
def picksNoneUptoCard : Claim7 := { stood := { row := picksNoneUptoRow, standIns := [], harness := (true, "4af03e93fabf5b867359eee4df2ca8c6deddf94555a126b5117edd1fee1630cb"), looks := true }, kinds := [], alts := [], laidByText := true, laidKinds := [.handle], laidTests := true, laidLooks := .later }
def PicksNoneUptoCardSaid : Prop := Claim7.holds Tryd.pinned (.plain (OpenSpec.upto picksNoneSpec)) picksNoneUptoCard

/-- THE SECOND FORM's CARD OF 'yardlaw1.RingPlays'. -/
def ringPlaysUptoCard : Claim7 := { stood := { row := ringPlaysUptoRow, standIns := [], harness := (true, "4af03e93fabf5b867359eee4df2ca8c6deddf94555a126b5117edd1fee1630cb"), looks := true }, kinds := [], alts := [], laidByText := true, laidKinds := [.handle], laidTests := true, laidLooks := .later }
def RingPlaysUptoCardSaid : Prop := Claim7.holds Tryd.pinned (.plain (OpenSpec.upto ringPlaysSpec)) ringPlaysUptoCard

/-- THE SECOND FORM's CARD OF 'yardlaw4.GroupsLine'. -/
def groupsLineUptoCard : Claim7 := { stood := { row := groupsLineUptoRow, standIns := [], harness := (true, "4af03e93fabf5b867359eee4df2ca8c6deddf94555a126b5117edd1fee1630cb"), looks := true }, kinds := [], alts := [], laidByText := true, laidKinds := [.handle], laidTests := true, laidLooks := .later }
def GroupsLineUptoCardSaid : Prop := Claim7.holds Tryd.pinned (.plain (OpenSpec.upto groupsLineSpec)) groupsLineUptoCard

/-- THE SECOND FORM's CARD OF 'yardlaw2.ParkPlays'. -/
def parkPlaysUptoCard : Claim7 := { stood := { row := parkPlaysUptoRow, standIns := [], harness := (true, "4af03e93fabf5b867359eee4df2ca8c6deddf94555a126b5117edd1fee1630cb"), looks := true }, kinds := [], alts := [], laidByText := true, laidKinds := [.handle], laidTests := true, laidLooks := .later }
def ParkPlaysUptoCardSaid : Prop := Claim7.holds Tryd.pinned (.plain (OpenSpec.upto parkPlaysSpec)) parkPlaysUptoCard

/-- THE SECOND FORM's CARD OF 'yardlaw1.PicksPlay'. -/
def picksPlayUptoCard : Claim7 := { stood := { row := picksPlayUptoRow, standIns := [], harness := (true, "4af03e93fabf5b867359eee4df2ca8c6deddf94555a126b5117edd1fee1630cb"), looks := true }, kinds := [], alts := [], laidByText := true, laidKinds := [.handle], laidTests := true, laidLooks := .later }
def PicksPlayUptoCardSaid : Prop := Claim7.holds Tryd.pinned (.plain (OpenSpec.upto picksPlaySpec)) picksPlayUptoCard

/-- THE SECOND FORM's CARD OF 'yardlaw1.SpillPlays'. -/
def spillPlaysUptoCard : Claim7 := { stood := { row := spillPlaysUptoRow, standIns := [], harness := (true, "4af03e93fabf5b867359eee4df2ca8c6deddf94555a126b5117edd1fee1630cb"), looks := true }, kinds := [], alts := [], laidByText := true, laidKinds := [.handle], laidTests := true, laidLooks := .later }
def SpillPlaysUptoCardSaid : Prop := Claim7.holds Tryd.pinned (.plain (OpenSpec.upto spillPlaysSpec)) spillPlaysUptoCard

/-- THE SECOND FORM's CARD OF 'yardlaw3.YardTells'. -/
def yardTellsUptoCard : Claim7 := { stood := { row := yardTellsUptoRow, standIns := [], harness := (true, "4af03e93fabf5b867359eee4df2ca8c6deddf94555a126b5117edd1fee1630cb"), looks := true }, kinds := [], alts := [], laidByText := true, laidKinds := [.handle], laidTests := true, laidLooks := .later }
def YardTellsUptoCardSaid : Prop := Claim7.holds Tryd.pinned (.plain (OpenSpec.upto yardTellsSpec)) yardTellsUptoCard

/-- THE SECOND FORM's CARD OF 'yardlaw1.HandPlays'. -/
def handPlaysUptoCard : Claim7 := { stood := { row := handPlaysUptoRow, standIns := [], harness := (true, "4af03e93fabf5b867359eee4df2ca8c6deddf94555a126b5117edd1fee1630cb"), looks := true }, kinds := [], alts := [], laidByText := true, laidKinds := [.handle], laidTests := true, laidLooks := .later }
def HandPlaysUptoCardSaid : Prop := Claim7.holds Tryd.pinned (.plain (OpenSpec.upto handPlaysSpec)) handPlaysUptoCard
end Rows
end Go.Proofs.YtmjicogmgkeilaaDoor
