/-
  DERIVED. GIVEN WITH THE SEED: THE CARDS: each row of YtocpmncedlenbaaGreatDoorRows.lean that lists a variable, with what it lists TIED to the program's text (the seventh form; the later family's looks); each row that meets fmt, with fmt's text TOLD by the authors' own Lean function (tested against real Go, not proved from fmt's source: count such statements apart). THE CARD IS WHAT COUNTS. Prove the row's statement (the work); the ties are given (YtocpmncedlenbaaGreatDoorTie.lean); close each card by the builder's one call (the guide's Derived/Test/ToyasCard.lean, 'card_holds'). Laid BY PROGRAM, IN A SANDBOX (cutbox-door.mjs). By AI agents, Wed Nov 11 2026. No macro, syntax, notation, axiom, sorry.
-/
import Derived.Test.YtocpmncedlenbaaGreatDoorRows
import GoSem.ClaimSeven
namespace Go.Proofs.YtocpmncedlenbaaGreatDoor
namespace Rows

/-- THE TIED CARD OF 'yardtop.TopWeave'. -/
def topWeaveCard : Claim7 := { stood := { row := topWeaveRow, standIns := [], harness := (true, "6e383a2fa24983bd02ca18e539b079ee1e305aadda6d20445c7a363e54b3dbdd"), looks := true }, kinds := [], alts := [], laidByText := true, laidKinds := [.data, .data, .data, .sentinel, .sentinel], laidTests := true, laidLooks := .later }
def TopWeaveCardSaid : Prop := Claim7.holds Tryz.pinned (.plain (OpenSpec.ofChange topWeaveSpec)) topWeaveCard

/-- THE TIED CARD OF 'yardlaw2.GangPlays'. -/
def gangPlaysCard : Claim7 := { stood := { row := gangPlaysRow, standIns := [], harness := (true, "6e383a2fa24983bd02ca18e539b079ee1e305aadda6d20445c7a363e54b3dbdd"), looks := true }, kinds := [], alts := [], laidByText := true, laidKinds := [.handle], laidTests := true, laidLooks := .later }
def GangPlaysCardSaid : Prop := Claim7.holds Tryz.pinned (.plain (OpenSpec.ofChange gangPlaysSpec)) gangPlaysCard

/-- THE TIED CARD OF 'yardlaw1.PlanTells'. -/
def planTellsCard : Claim7 := { stood := { row := planTellsRow, standIns := [], harness := (true, "6e383a2fa24983bd02ca18e539b079ee1e305aadda6d20445c7a363e54b3dbdd"), looks := true }, kinds := [], alts := [], laidByText := true, laidKinds := [.data, .data, .data, .data, .handle, .sentinel, .sentinel, .pinned], laidTests := true, laidLooks := .later }
def PlanTellsCardSaid : Prop := Claim7.holds Tryz.pinned (.plain (OpenSpec.ofChange planTellsSpec)) planTellsCard

/-- THE TIED CARD OF 'yardlaw3.TraceTells'. -/
def traceTellsCard : Claim7 := { stood := { row := traceTellsRow, standIns := [], harness := (true, "6e383a2fa24983bd02ca18e539b079ee1e305aadda6d20445c7a363e54b3dbdd"), looks := true }, kinds := [], alts := [], laidByText := true, laidKinds := [.data, .data, .data, .data, .handle, .sentinel, .sentinel, .widerDeep, .pinned], laidTests := true, laidLooks := .later }
def TraceTellsCardSaid : Prop := Claim7.holds Tryz.pinned (.plain (OpenSpec.ofChange traceTellsSpec)) traceTellsCard

/-- THE SECOND FORM's CARD OF 'yardtop.TopWeave'. -/
def topWeaveUptoCard : Claim7 := { stood := { row := topWeaveUptoRow, standIns := [], harness := (true, "6e383a2fa24983bd02ca18e539b079ee1e305aadda6d20445c7a363e54b3dbdd"), looks := true }, kinds := [], alts := [], laidByText := true, laidKinds := [.data, .data, .data, .sentinel, .sentinel], laidTests := true, laidLooks := .later }
def TopWeaveUptoCardSaid : Prop := Claim7.holds Tryz.pinned (.plain (OpenSpec.upto topWeaveSpec)) topWeaveUptoCard

/-- THE SECOND FORM's CARD OF 'yardlaw2.GangPlays'. -/
def gangPlaysUptoCard : Claim7 := { stood := { row := gangPlaysUptoRow, standIns := [], harness := (true, "6e383a2fa24983bd02ca18e539b079ee1e305aadda6d20445c7a363e54b3dbdd"), looks := true }, kinds := [], alts := [], laidByText := true, laidKinds := [.handle], laidTests := true, laidLooks := .later }
def GangPlaysUptoCardSaid : Prop := Claim7.holds Tryz.pinned (.plain (OpenSpec.upto gangPlaysSpec)) gangPlaysUptoCard

/-- THE SECOND FORM's CARD OF 'yardlaw1.PlanTells'. -/
def planTellsUptoCard : Claim7 := { stood := { row := planTellsUptoRow, standIns := [], harness := (true, "6e383a2fa24983bd02ca18e539b079ee1e305aadda6d20445c7a363e54b3dbdd"), looks := true }, kinds := [], alts := [], laidByText := true, laidKinds := [.data, .data, .data, .data, .handle, .sentinel, .sentinel, .pinned], laidTests := true, laidLooks := .later }
def PlanTellsUptoCardSaid : Prop := Claim7.holds Tryz.pinned (.plain (OpenSpec.upto planTellsSpec)) planTellsUptoCard

/-- THE SECOND FORM's CARD OF 'yardlaw3.TraceTells'. -/
def traceTellsUptoCard : Claim7 := { stood := { row := traceTellsUptoRow, standIns := [], harness := (true, "6e383a2fa24983bd02ca18e539b079ee1e305aadda6d20445c7a363e54b3dbdd"), looks := true }, kinds := [], alts := [], laidByText := true, laidKinds := [.data, .data, .data, .data, .handle, .sentinel, .sentinel, .widerDeep, .pinned], laidTests := true, laidLooks := .later }
def TraceTellsUptoCardSaid : Prop := Claim7.holds Tryz.pinned (.plain (OpenSpec.upto traceTellsSpec)) traceTellsUptoCard
end Rows
end Go.Proofs.YtocpmncedlenbaaGreatDoor
