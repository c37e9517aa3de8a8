/-
  DERIVED. GIVEN WITH THE SEED: THE CARDS: each row of YtloojhnhialenaaGreatDoorRows.lean that lists a variable, with what it lists TIED to the program's text (the seventh form; the later family's looks); each row that meets fmt, with fmt's text TOLD by the authors' own Lean function (tested against real Go, not proved from fmt's source: count such statements apart). THE CARD IS WHAT COUNTS. Prove the row's statement (the work); the ties are given (YtloojhnhialenaaGreatDoorTie.lean); close each card by the builder's one call (the guide's Derived/Test/ToyasCard.lean, 'card_holds'). Laid BY PROGRAM, IN A SANDBOX (cutbox-door.mjs). By AI agents, Wed Nov 11 2026. No macro, syntax, notation, axiom, sorry.
-/
import Derived.Test.YtloojhnhialenaaGreatDoorRows
import GoSem.ClaimSeven
namespace Go.Proofs.YtloojhnhialenaaGreatDoor
namespace Rows

/-- THE TIED CARD OF 'yardtop.TopKept'. -/
def topKeptCard : Claim7 := { stood := { row := topKeptRow, standIns := [], harness := (true, "c03455d664db4ba577c9476cf4a1c39b2ddb32d5ce6853ab71c4c4b07ccae472"), looks := true }, kinds := [], alts := [], laidByText := true, laidKinds := [.data, .data, .data, .sentinel, .sentinel], laidTests := true, laidLooks := .later }
def TopKeptCardSaid : Prop := Claim7.holds Tryz.pinned (.plain (OpenSpec.ofChange topKeptSpec)) topKeptCard

/-- THE TIED CARD OF 'yardtop.TopWeave'. -/
def topWeaveCard : Claim7 := { stood := { row := topWeaveRow, standIns := [], harness := (true, "c03455d664db4ba577c9476cf4a1c39b2ddb32d5ce6853ab71c4c4b07ccae472"), looks := true }, kinds := [], alts := [], laidByText := true, laidKinds := [.data, .data, .data, .sentinel, .sentinel], laidTests := true, laidLooks := .later }
def TopWeaveCardSaid : Prop := Claim7.holds Tryz.pinned (.plain (OpenSpec.ofChange topWeaveSpec)) topWeaveCard

/-- THE TIED CARD OF 'yardlaw2.ListTells'. -/
def listTellsCard : Claim7 := { stood := { row := listTellsRow, standIns := [], harness := (true, "c03455d664db4ba577c9476cf4a1c39b2ddb32d5ce6853ab71c4c4b07ccae472"), looks := true }, kinds := [], alts := [], laidByText := true, laidKinds := [.handle], laidTests := true, laidLooks := .later }
def ListTellsCardSaid : Prop := Claim7.holds Tryz.pinned (.plain (OpenSpec.ofChange listTellsSpec)) listTellsCard

/-- THE TIED CARD OF 'yardlaw3.LogKeeps'. -/
def logKeepsCard : Claim7 := { stood := { row := logKeepsRow, standIns := [], harness := (true, "c03455d664db4ba577c9476cf4a1c39b2ddb32d5ce6853ab71c4c4b07ccae472"), looks := true }, kinds := [], alts := [], laidByText := true, laidKinds := [.data, .data, .data, .handle, .sentinel, .sentinel], laidTests := true, laidLooks := .later }
def LogKeepsCardSaid : Prop := Claim7.holds Tryz.pinned (.plain (OpenSpec.ofChange logKeepsSpec)) logKeepsCard

/-- THE SECOND FORM's CARD OF 'yardtop.TopKept'. -/
def topKeptUptoCard : Claim7 := { stood := { row := topKeptUptoRow, standIns := [], harness := (true, "c03455d664db4ba577c9476cf4a1c39b2ddb32d5ce6853ab71c4c4b07ccae472"), looks := true }, kinds := [], alts := [], laidByText := true, laidKinds := [.data, .data, .data, .sentinel, .sentinel], laidTests := true, laidLooks := .later }
def TopKeptUptoCardSaid : Prop := Claim7.holds Tryz.pinned (.plain (OpenSpec.upto topKeptSpec)) topKeptUptoCard

/-- THE SECOND FORM's CARD OF 'yardtop.TopWeave'. -/
def topWeaveUptoCard : Claim7 := { stood := { row := topWeaveUptoRow, standIns := [], harness := (true, "c03455d664db4ba577c9476cf4a1c39b2ddb32d5ce6853ab71c4c4b07ccae472"), looks := true }, kinds := [], alts := [], laidByText := true, laidKinds := [.data, .data, .data, .sentinel, .sentinel], laidTests := true, laidLooks := .later }
def TopWeaveUptoCardSaid : Prop := Claim7.holds Tryz.pinned (.plain (OpenSpec.upto topWeaveSpec)) topWeaveUptoCard

/-- THE SECOND FORM's CARD OF 'yardlaw2.ListTells'. -/
def listTellsUptoCard : Claim7 := { stood := { row := listTellsUptoRow, standIns := [], harness := (true, "c03455d664db4ba577c9476cf4a1c39b2ddb32d5ce6853ab71c4c4b07ccae472"), looks := true }, kinds := [], alts := [], laidByText := true, laidKinds := [.handle], laidTests := true, laidLooks := .later }
def ListTellsUptoCardSaid : Prop := Claim7.holds Tryz.pinned (.plain (OpenSpec.upto listTellsSpec)) listTellsUptoCard

/-- THE SECOND FORM's CARD OF 'yardlaw3.LogKeeps'. -/
def logKeepsUptoCard : Claim7 := { stood := { row := logKeepsUptoRow, standIns := [], harness := (true, "c03455d664db4ba577c9476cf4a1c39b2ddb32d5ce6853ab71c4c4b07ccae472"), looks := true }, kinds := [], alts := [], laidByText := true, laidKinds := [.data, .data, .data, .handle, .sentinel, .sentinel], laidTests := true, laidLooks := .later }
def LogKeepsUptoCardSaid : Prop := Claim7.holds Tryz.pinned (.plain (OpenSpec.upto logKeepsSpec)) logKeepsUptoCard
end Rows
end Go.Proofs.YtloojhnhialenaaGreatDoor
