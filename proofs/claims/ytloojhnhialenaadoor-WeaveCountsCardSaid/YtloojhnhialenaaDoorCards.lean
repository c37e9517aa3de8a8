/-
  DERIVED. GIVEN WITH THE SEED: THE CARDS: each row of YtloojhnhialenaaDoorRows.lean that lists a variable, with what it lists TIED to the program's text (the seventh form; the later family's looks); each row that meets fmt, with fmt's text TOLD by the authors' own Lean function (tested against real Go, not proved from fmt's source: count such statements apart). THE CARD IS WHAT COUNTS. Prove the row's statement (the work); the ties are given (YtloojhnhialenaaDoorTie.lean); close each card by the builder's one call (the guide's Derived/Test/ToyasCard.lean, 'card_holds'). Laid BY PROGRAM, IN A SANDBOX (cutbox-door.mjs). By AI agents, Wed Nov 11 2026. No macro, syntax, notation, axiom, sorry.
-/
import Derived.Test.YtloojhnhialenaaDoorRows
import GoSem.ClaimSeven
namespace Go.Proofs.YtloojhnhialenaaDoor
namespace Rows

/-- THE TIED CARD OF 'yardlaw4.TraceWords'. -/
def traceWordsCard : Claim7 := { stood := { row := traceWordsRow, standIns := [], harness := (true, "01b9a7dffb299410aa8c36de8c06a31c6c958d758d456c93c926c18711707e8f"), looks := true }, kinds := [], alts := [], laidByText := true, laidKinds := [.data, .data, .data, .widerDeep], laidTests := true, laidLooks := .later }
def TraceWordsCardSaid : Prop := Claim7.holds Tryd.pinned (.plain (OpenSpec.ofChange traceWordsSpec)) traceWordsCard

/-- THE TIED CARD OF 'yardlaw4.LogRefuses'. -/
def logRefusesCard : Claim7 := { stood := { row := logRefusesRow, standIns := [], harness := (true, "01b9a7dffb299410aa8c36de8c06a31c6c958d758d456c93c926c18711707e8f"), looks := true }, kinds := [], alts := [], laidByText := true, laidKinds := [.data, .data, .data, .handle], laidTests := true, laidLooks := .later }
def LogRefusesCardSaid : Prop := Claim7.holds Tryd.pinned (.plain (OpenSpec.ofChange logRefusesSpec)) logRefusesCard

/-- THE TIED CARD OF 'yardlaw4.WeaveDeep'. -/
def weaveDeepCard : Claim7 := { stood := { row := weaveDeepRow, standIns := [], harness := (true, "01b9a7dffb299410aa8c36de8c06a31c6c958d758d456c93c926c18711707e8f"), looks := true }, kinds := [], alts := [], laidByText := true, laidKinds := [.data, .data, .data, .handle, .sentinel, .sentinel], laidTests := true, laidLooks := .later }
def WeaveDeepCardSaid : Prop := Claim7.holds Tryd.pinned (.plain (OpenSpec.ofChange weaveDeepSpec)) weaveDeepCard

/-- THE TIED CARD OF 'yardlaw1.WeaveTells'. -/
def weaveTellsCard : Claim7 := { stood := { row := weaveTellsRow, standIns := [], harness := (true, "01b9a7dffb299410aa8c36de8c06a31c6c958d758d456c93c926c18711707e8f"), looks := true }, kinds := [], alts := [], laidByText := true, laidKinds := [.data, .data, .data, .handle, .sentinel, .sentinel], laidTests := true, laidLooks := .later }
def WeaveTellsCardSaid : Prop := Claim7.holds Tryd.pinned (.plain (OpenSpec.ofChange weaveTellsSpec)) weaveTellsCard

/-- THE TIED CARD OF 'yardlaw1.WeaveCounts'. -/
def weaveCountsCard : Claim7 := { stood := { row := weaveCountsRow, standIns := [], harness := (true, "01b9a7dffb299410aa8c36de8c06a31c6c958d758d456c93c926c18711707e8f"), looks := true }, kinds := [], alts := [], laidByText := true, laidKinds := [.data, .data, .data, .handle, .sentinel, .sentinel], laidTests := true, laidLooks := .later }
def WeaveCountsCardSaid : Prop := Claim7.holds Tryd.pinned (.plain (OpenSpec.ofChange weaveCountsSpec)) weaveCountsCard

/-- THE TIED CARD OF 'yardlaw3.LogStops'. -/
def logStopsCard : Claim7 := { stood := { row := logStopsRow, standIns := [], harness := (true, "01b9a7dffb299410aa8c36de8c06a31c6c958d758d456c93c926c18711707e8f"), looks := true }, kinds := [], alts := [], laidByText := true, laidKinds := [.data, .data, .data, .handle, .sentinel, .sentinel], laidTests := true, laidLooks := .later }
def LogStopsCardSaid : Prop := Claim7.holds Tryd.pinned (.plain (OpenSpec.ofChange logStopsSpec)) logStopsCard

/-- THE SECOND FORM's CARD OF 'yardlaw4.TraceWords'. -/
def traceWordsUptoCard : Claim7 := { stood := { row := traceWordsUptoRow, standIns := [], harness := (true, "01b9a7dffb299410aa8c36de8c06a31c6c958d758d456c93c926c18711707e8f"), looks := true }, kinds := [], alts := [], laidByText := true, laidKinds := [.data, .data, .data, .widerDeep], laidTests := true, laidLooks := .later }
def TraceWordsUptoCardSaid : Prop := Claim7.holds Tryd.pinned (.plain (OpenSpec.upto traceWordsSpec)) traceWordsUptoCard

/-- THE SECOND FORM's CARD OF 'yardlaw4.LogRefuses'. -/
def logRefusesUptoCard : Claim7 := { stood := { row := logRefusesUptoRow, standIns := [], harness := (true, "01b9a7dffb299410aa8c36de8c06a31c6c958d758d456c93c926c18711707e8f"), looks := true }, kinds := [], alts := [], laidByText := true, laidKinds := [.data, .data, .data, .handle], laidTests := true, laidLooks := .later }
def LogRefusesUptoCardSaid : Prop := Claim7.holds Tryd.pinned (.plain (OpenSpec.upto logRefusesSpec)) logRefusesUptoCard

/-- THE SECOND FORM's CARD OF 'yardlaw4.WeaveDeep'. -/
def weaveDeepUptoCard : Claim7 := { stood := { row := weaveDeepUptoRow, standIns := [], harness := (true, "01b9a7dffb299410aa8c36de8c06a31c6c958d758d456c93c926c18711707e8f"), looks := true }, kinds := [], alts := [], laidByText := true, laidKinds := [.data, .data, .data, .handle, .sentinel, .sentinel], laidTests := true, laidLooks := .later }
def WeaveDeepUptoCardSaid : Prop := Claim7.holds Tryd.pinned (.plain (OpenSpec.upto weaveDeepSpec)) weaveDeepUptoCard

/-- THE SECOND FORM's CARD OF 'yardlaw1.WeaveTells'. -/
def weaveTellsUptoCard : Claim7 := { stood := { row := weaveTellsUptoRow, standIns := [], harness := (true, "01b9a7dffb299410aa8c36de8c06a31c6c958d758d456c93c926c18711707e8f"), looks := true }, kinds := [], alts := [], laidByText := true, laidKinds := [.data, .data, .data, .handle, .sentinel, .sentinel], laidTests := true, laidLooks := .later }
def WeaveTellsUptoCardSaid : Prop := Claim7.holds Tryd.pinned (.plain (OpenSpec.upto weaveTellsSpec)) weaveTellsUptoCard

/-- THE SECOND FORM's CARD OF 'yardlaw1.WeaveCounts'. -/
def weaveCountsUptoCard : Claim7 := { stood := { row := weaveCountsUptoRow, standIns := [], harness := (true, "01b9a7dffb299410aa8c36de8c06a31c6c958d758d456c93c926c18711707e8f"), looks := true }, kinds := [], alts := [], laidByText := true, laidKinds := [.data, .data, .data, .handle, .sentinel, .sentinel], laidTests := true, laidLooks := .later }
def WeaveCountsUptoCardSaid : Prop := Claim7.holds Tryd.pinned (.plain (OpenSpec.upto weaveCountsSpec)) weaveCountsUptoCard

/-- THE SECOND FORM's CARD OF 'yardlaw3.LogStops'. -/
def logStopsUptoCard : Claim7 := { stood := { row := logStopsUptoRow, standIns := [], harness := (true, "01b9a7dffb299410aa8c36de8c06a31c6c958d758d456c93c926c18711707e8f"), looks := true }, kinds := [], alts := [], laidByText := true, laidKinds := [.data, .data, .data, .handle, .sentinel, .sentinel], laidTests := true, laidLooks := .later }
def LogStopsUptoCardSaid : Prop := Claim7.holds Tryd.pinned (.plain (OpenSpec.upto logStopsSpec)) logStopsUptoCard
end Rows
end Go.Proofs.YtloojhnhialenaaDoor
