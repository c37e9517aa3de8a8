/-
  DERIVED. GIVEN WITH THE SEED: THE CARDS: each row of YtoofalchkedciaaGreatDoorRows.lean that lists a variable, with what it lists TIED to the program's text (the seventh form; the later family's looks); each row that meets fmt, with fmt's text TOLD by the authors' own Lean function (tested against real Go, not proved from fmt's source: count such statements apart). THE CARD IS WHAT COUNTS. Prove the row's statement (the work); the ties are given (YtoofalchkedciaaGreatDoorTie.lean); close each card by the builder's one call (the guide's Derived/Test/ToyasCard.lean, 'card_holds'). Laid BY PROGRAM, IN A SANDBOX (cutbox-door.mjs). By AI agents, Wed Nov 11 2026. No macro, syntax, notation, axiom, sorry.
-/
import Derived.Test.YtoofalchkedciaaGreatDoorRows
import GoSem.ClaimSeven
namespace Go.Proofs.YtoofalchkedciaaGreatDoor
namespace Rows

/-- THE TIED CARD OF 'yardlaw1.PlanTells'. -/
def planTellsCard : Claim7 := { stood := { row := planTellsRow, standIns := [], harness := (true, "3d9f3fdf3f1daaa1f7c5bce0178dddf9c14d6f74856688a86ff1ca73595ccf86"), looks := true }, kinds := [], alts := [], laidByText := true, laidKinds := [.data, .data, .data, .data, .handle, .sentinel, .sentinel, .pinned], laidTests := true, laidLooks := .later }
def PlanTellsCardSaid : Prop := Claim7.holds Tryz.pinned (.plain (OpenSpec.ofChange planTellsSpec)) planTellsCard

/-- THE TIED CARD OF 'yardlaw3.TraceTells'. -/
def traceTellsCard : Claim7 := { stood := { row := traceTellsRow, standIns := [], harness := (true, "3d9f3fdf3f1daaa1f7c5bce0178dddf9c14d6f74856688a86ff1ca73595ccf86"), looks := true }, kinds := [], alts := [], laidByText := true, laidKinds := [.data, .data, .data, .data, .handle, .sentinel, .sentinel, .widerDeep, .pinned], laidTests := true, laidLooks := .later }
def TraceTellsCardSaid : Prop := Claim7.holds Tryz.pinned (.plain (OpenSpec.ofChange traceTellsSpec)) traceTellsCard

/-- THE TIED CARD OF 'yardlaw3.RunAnswers'. -/
def runAnswersCard : Claim7 := { stood := { row := runAnswersRow, standIns := [], harness := (true, "3d9f3fdf3f1daaa1f7c5bce0178dddf9c14d6f74856688a86ff1ca73595ccf86"), looks := true }, kinds := [], alts := [], laidByText := true, laidKinds := [.data, .data, .data, .data, .handle, .sentinel, .sentinel, .widerDeep, .wider, .pinned], laidTests := true, laidLooks := .later }
def RunAnswersCardSaid : Prop := Claim7.holds Tryz.pinned (.plain (OpenSpec.ofChange runAnswersSpec)) runAnswersCard

/-- THE TIED CARD OF 'yardlaw3.RunBegins'. -/
def runBeginsCard : Claim7 := { stood := { row := runBeginsRow, standIns := [], harness := (true, "3d9f3fdf3f1daaa1f7c5bce0178dddf9c14d6f74856688a86ff1ca73595ccf86"), looks := true }, kinds := [], alts := [], laidByText := true, laidKinds := [.data, .data, .data, .data, .handle, .sentinel, .sentinel, .widerDeep, .wider, .pinned], laidTests := true, laidLooks := .later }
def RunBeginsCardSaid : Prop := Claim7.holds Tryz.pinned (.plain (OpenSpec.ofChange runBeginsSpec)) runBeginsCard

/-- THE TIED CARD OF 'yardlaw3.RunWorks'. -/
def runWorksCard : Claim7 := { stood := { row := runWorksRow, standIns := [], harness := (true, "3d9f3fdf3f1daaa1f7c5bce0178dddf9c14d6f74856688a86ff1ca73595ccf86"), looks := true }, kinds := [], alts := [], laidByText := true, laidKinds := [.data, .data, .data, .data, .handle, .sentinel, .sentinel, .widerDeep, .wider, .pinned], laidTests := true, laidLooks := .later }
def RunWorksCardSaid : Prop := Claim7.holds Tryz.pinned (.plain (OpenSpec.ofChange runWorksSpec)) runWorksCard

/-- THE TIED CARD OF 'yardtop.TopGang'. -/
def topGangCard : Claim7 := { stood := { row := topGangRow, standIns := [], harness := (true, "3d9f3fdf3f1daaa1f7c5bce0178dddf9c14d6f74856688a86ff1ca73595ccf86"), looks := true }, kinds := [], alts := [], laidByText := true, laidKinds := [.data, .data, .data, .data, .sentinel, .sentinel, .widerDeep, .pinned], laidTests := true, laidLooks := .later }
def TopGangCardSaid : Prop := Claim7.holds Tryz.pinned (.plain (OpenSpec.ofChange topGangSpec)) topGangCard

/-- THE SECOND FORM's CARD OF 'yardlaw1.PlanTells'. -/
def planTellsUptoCard : Claim7 := { stood := { row := planTellsUptoRow, standIns := [], harness := (true, "3d9f3fdf3f1daaa1f7c5bce0178dddf9c14d6f74856688a86ff1ca73595ccf86"), looks := true }, kinds := [], alts := [], laidByText := true, laidKinds := [.data, .data, .data, .data, .handle, .sentinel, .sentinel, .pinned], laidTests := true, laidLooks := .later }
def PlanTellsUptoCardSaid : Prop := Claim7.holds Tryz.pinned (.plain (OpenSpec.upto planTellsSpec)) planTellsUptoCard

/-- THE SECOND FORM's CARD OF 'yardlaw3.TraceTells'. -/
def traceTellsUptoCard : Claim7 := { stood := { row := traceTellsUptoRow, standIns := [], harness := (true, "3d9f3fdf3f1daaa1f7c5bce0178dddf9c14d6f74856688a86ff1ca73595ccf86"), looks := true }, kinds := [], alts := [], laidByText := true, laidKinds := [.data, .data, .data, .data, .handle, .sentinel, .sentinel, .widerDeep, .pinned], laidTests := true, laidLooks := .later }
def TraceTellsUptoCardSaid : Prop := Claim7.holds Tryz.pinned (.plain (OpenSpec.upto traceTellsSpec)) traceTellsUptoCard

/-- THE SECOND FORM's CARD OF 'yardlaw3.RunAnswers'. -/
def runAnswersUptoCard : Claim7 := { stood := { row := runAnswersUptoRow, standIns := [], harness := (true, "3d9f3fdf3f1daaa1f7c5bce0178dddf9c14d6f74856688a86ff1ca73595ccf86"), looks := true }, kinds := [], alts := [], laidByText := true, laidKinds := [.data, .data, .data, .data, .handle, .sentinel, .sentinel, .widerDeep, .wider, .pinned], laidTests := true, laidLooks := .later }
def RunAnswersUptoCardSaid : Prop := Claim7.holds Tryz.pinned (.plain (OpenSpec.upto runAnswersSpec)) runAnswersUptoCard

/-- THE SECOND FORM's CARD OF 'yardlaw3.RunBegins'. -/
def runBeginsUptoCard : Claim7 := { stood := { row := runBeginsUptoRow, standIns := [], harness := (true, "3d9f3fdf3f1daaa1f7c5bce0178dddf9c14d6f74856688a86ff1ca73595ccf86"), looks := true }, kinds := [], alts := [], laidByText := true, laidKinds := [.data, .data, .data, .data, .handle, .sentinel, .sentinel, .widerDeep, .wider, .pinned], laidTests := true, laidLooks := .later }
def RunBeginsUptoCardSaid : Prop := Claim7.holds Tryz.pinned (.plain (OpenSpec.upto runBeginsSpec)) runBeginsUptoCard

/-- THE SECOND FORM's CARD OF 'yardlaw3.RunWorks'. -/
def runWorksUptoCard : Claim7 := { stood := { row := runWorksUptoRow, standIns := [], harness := (true, "3d9f3fdf3f1daaa1f7c5bce0178dddf9c14d6f74856688a86ff1ca73595ccf86"), looks := true }, kinds := [], alts := [], laidByText := true, laidKinds := [.data, .data, .data, .data, .handle, .sentinel, .sentinel, .widerDeep, .wider, .pinned], laidTests := true, laidLooks := .later }
def RunWorksUptoCardSaid : Prop := Claim7.holds Tryz.pinned (.plain (OpenSpec.upto runWorksSpec)) runWorksUptoCard

/-- THE SECOND FORM's CARD OF 'yardtop.TopGang'. -/
def topGangUptoCard : Claim7 := { stood := { row := topGangUptoRow, standIns := [], harness := (true, "3d9f3fdf3f1daaa1f7c5bce0178dddf9c14d6f74856688a86ff1ca73595ccf86"), looks := true }, kinds := [], alts := [], laidByText := true, laidKinds := [.data, .data, .data, .data, .sentinel, .sentinel, .widerDeep, .pinned], laidTests := true, laidLooks := .later }
def TopGangUptoCardSaid : Prop := Claim7.holds Tryz.pinned (.plain (OpenSpec.upto topGangSpec)) topGangUptoCard
end Rows
end Go.Proofs.YtoofalchkedciaaGreatDoor
