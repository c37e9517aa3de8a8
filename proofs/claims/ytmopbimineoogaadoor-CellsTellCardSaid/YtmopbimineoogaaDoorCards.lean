/-
  DERIVED. GIVEN WITH THE SEED: THE CARDS: each row of YtmopbimineoogaaDoorRows.lean that lists a variable, with what it lists TIED to the program's text (the seventh form; the later family's looks); each row that meets fmt, with fmt's text TOLD by the authors' own Lean function (tested against real Go, not proved from fmt's source: count such statements apart). THE CARD IS WHAT COUNTS. Prove the row's statement (the work); the ties are given (YtmopbimineoogaaDoorTie.lean); close each card by the builder's one call (the guide's Derived/Test/ToyasCard.lean, 'card_holds'). Laid BY PROGRAM, IN A SANDBOX (cutbox-door.mjs). By AI agents, Wed Nov 11 2026. No macro, syntax, notation, axiom, sorry.
-/
import Derived.Test.YtmopbimineoogaaDoorRows
import GoSem.ClaimSeven
namespace Go.Proofs.YtmopbimineoogaaDoor
namespace Rows

/-- THE TIED CARD OF 'yardlaw2.JudgeTells'. -/
def judgeTellsCard : Claim7 := { stood := { row := judgeTellsRow, standIns := [], harness := (true, "9f16f8e58de15fb48673014e515daadd8c0b2b0214ac532486d591a3daed2ad4"), looks := true }, kinds := [], alts := [], laidByText := true, laidKinds := [.handle], laidTests := true, laidLooks := .later }
def JudgeTellsCardSaid : Prop := Claim7.holds Tryd.pinned (.plain (OpenSpec.ofChange judgeTellsSpec)) judgeTellsCard

/-- THE TIED CARD OF 'yardlaw2.JudgeSame'. -/
def judgeSameCard : Claim7 := { stood := { row := judgeSameRow, standIns := [], harness := (true, "9f16f8e58de15fb48673014e515daadd8c0b2b0214ac532486d591a3daed2ad4"), looks := true }, kinds := [], alts := [], laidByText := true, laidKinds := [.handle], laidTests := true, laidLooks := .later }
def JudgeSameCardSaid : Prop := Claim7.holds Tryd.pinned (.plain (OpenSpec.ofChange judgeSameSpec)) judgeSameCard

/-- THE TIED CARD OF 'yardlaw3.CellsTell'. -/
def cellsTellCard : Claim7 := { stood := { row := cellsTellRow, standIns := [], harness := (true, "9f16f8e58de15fb48673014e515daadd8c0b2b0214ac532486d591a3daed2ad4"), looks := true }, kinds := [], alts := [], laidByText := true, laidKinds := [.handle], laidTests := true, laidLooks := .later }
def CellsTellCardSaid : Prop := Claim7.holds Tryd.pinned (.plain (OpenSpec.ofChange cellsTellSpec)) cellsTellCard

/-- THE SECOND FORM's CARD OF 'yardlaw2.JudgeTells'. -/
def judgeTellsUptoCard : Claim7 := { stood := { row := judgeTellsUptoRow, standIns := [], harness := (true, "9f16f8e58de15fb48673014e515daadd8c0b2b0214ac532486d591a3daed2ad4"), looks := true }, kinds := [], alts := [], laidByText := true, laidKinds := [.handle], laidTests := true, laidLooks := .later }
def JudgeTellsUptoCardSaid : Prop := Claim7.holds Tryd.pinned (.plain (OpenSpec.upto judgeTellsSpec)) judgeTellsUptoCard

/-- THE SECOND FORM's CARD OF 'yardlaw2.JudgeSame'. -/
def judgeSameUptoCard : Claim7 := { stood := { row := judgeSameUptoRow, standIns := [], harness := (true, "9f16f8e58de15fb48673014e515daadd8c0b2b0214ac532486d591a3daed2ad4"), looks := true }, kinds := [], alts := [], laidByText := true, laidKinds := [.handle], laidTests := true, laidLooks := .later }
def JudgeSameUptoCardSaid : Prop := Claim7.holds Tryd.pinned (.plain (OpenSpec.upto judgeSameSpec)) judgeSameUptoCard

/-- THE SECOND FORM's CARD OF 'yardlaw3.CellsTell'. -/
def cellsTellUptoCard : Claim7 := { stood := { row := cellsTellUptoRow, standIns := [], harness := (true, "9f16f8e58de15fb48673014e515daadd8c0b2b0214ac532486d591a3daed2ad4"), looks := true }, kinds := [], alts := [], laidByText := true, laidKinds := [.handle], laidTests := true, laidLooks := .later }
def CellsTellUptoCardSaid : Prop := Claim7.holds Tryd.pinned (.plain (OpenSpec.upto cellsTellSpec)) cellsTellUptoCard
end Rows
end Go.Proofs.YtmopbimineoogaaDoor
