/-
  DERIVED. GIVEN WITH THE SEED: THE CARDS: each row of YtocpmncedlenbaaDoorRows.lean that lists a variable, with what it lists TIED to the program's text (the seventh form; the later family's looks); each row that meets fmt, with fmt's text TOLD by the authors' own Lean function (tested against real Go, not proved from fmt's source: count such statements apart). THE CARD IS WHAT COUNTS. Prove the row's statement (the work); the ties are given (YtocpmncedlenbaaDoorTie.lean); close each card by the builder's one call (the guide's Derived/Test/ToyasCard.lean, 'card_holds'). Laid BY PROGRAM, IN A SANDBOX (cutbox-door.mjs). By AI agents, Wed Nov 11 2026. No macro, syntax, notation, axiom, sorry.
-/
import Derived.Test.YtocpmncedlenbaaDoorRows
import GoSem.ClaimSeven
namespace Go.Proofs.YtocpmncedlenbaaDoor
namespace Rows

/-- THE TIED CARD OF 'yardlaw1.WeaveTells'. -/
def weaveTellsCard : Claim7 := { stood := { row := weaveTellsRow, standIns := [], harness := (true, "5b22e6febdea535f2c86aa74633a81ec97d2c65f6bb0660e4c3e4b3df1b6166c"), looks := true }, kinds := [], alts := [], laidByText := true, laidKinds := [.data, .data, .data, .handle, .sentinel, .sentinel], laidTests := true, laidLooks := .later }
def WeaveTellsCardSaid : Prop := Claim7.holds Tryd.pinned (.plain (OpenSpec.ofChange weaveTellsSpec)) weaveTellsCard

/-- THE TIED CARD OF 'yardlaw1.PlanBack'. -/
def planBackCard : Claim7 := { stood := { row := planBackRow, standIns := [], harness := (true, "5b22e6febdea535f2c86aa74633a81ec97d2c65f6bb0660e4c3e4b3df1b6166c"), looks := true }, kinds := [], alts := [], laidByText := true, laidKinds := [.data, .data, .data, .data, .sentinel, .sentinel, .pinned], laidTests := true, laidLooks := .later }
def PlanBackCardSaid : Prop := Claim7.holds Tryd.pinned (.plain (OpenSpec.ofChange planBackSpec)) planBackCard

/-- THE TIED CARD OF 'yardlaw3.TraceBack'. -/
def traceBackCard : Claim7 := { stood := { row := traceBackRow, standIns := [], harness := (true, "5b22e6febdea535f2c86aa74633a81ec97d2c65f6bb0660e4c3e4b3df1b6166c"), looks := true }, kinds := [], alts := [], laidByText := true, laidKinds := [.data, .data, .data, .data, .sentinel, .sentinel, .widerDeep, .pinned], laidTests := true, laidLooks := .later }
def TraceBackCardSaid : Prop := Claim7.holds Tryd.pinned (.plain (OpenSpec.ofChange traceBackSpec)) traceBackCard

/-- THE SECOND FORM's CARD OF 'yardlaw1.WeaveTells'. -/
def weaveTellsUptoCard : Claim7 := { stood := { row := weaveTellsUptoRow, standIns := [], harness := (true, "5b22e6febdea535f2c86aa74633a81ec97d2c65f6bb0660e4c3e4b3df1b6166c"), looks := true }, kinds := [], alts := [], laidByText := true, laidKinds := [.data, .data, .data, .handle, .sentinel, .sentinel], laidTests := true, laidLooks := .later }
def WeaveTellsUptoCardSaid : Prop := Claim7.holds Tryd.pinned (.plain (OpenSpec.upto weaveTellsSpec)) weaveTellsUptoCard

/-- THE SECOND FORM's CARD OF 'yardlaw1.PlanBack'. -/
def planBackUptoCard : Claim7 := { stood := { row := planBackUptoRow, standIns := [], harness := (true, "5b22e6febdea535f2c86aa74633a81ec97d2c65f6bb0660e4c3e4b3df1b6166c"), looks := true }, kinds := [], alts := [], laidByText := true, laidKinds := [.data, .data, .data, .data, .sentinel, .sentinel, .pinned], laidTests := true, laidLooks := .later }
def PlanBackUptoCardSaid : Prop := Claim7.holds Tryd.pinned (.plain (OpenSpec.upto planBackSpec)) planBackUptoCard

/-- THE SECOND FORM's CARD OF 'yardlaw3.TraceBack'. -/
def traceBackUptoCard : Claim7 := { stood := { row := traceBackUptoRow, standIns := [], harness := (true, "5b22e6febdea535f2c86aa74633a81ec97d2c65f6bb0660e4c3e4b3df1b6166c"), looks := true }, kinds := [], alts := [], laidByText := true, laidKinds := [.data, .data, .data, .data, .sentinel, .sentinel, .widerDeep, .pinned], laidTests := true, laidLooks := .later }
def TraceBackUptoCardSaid : Prop := Claim7.holds Tryd.pinned (.plain (OpenSpec.upto traceBackSpec)) traceBackUptoCard
end Rows
end Go.Proofs.YtocpmncedlenbaaDoor
