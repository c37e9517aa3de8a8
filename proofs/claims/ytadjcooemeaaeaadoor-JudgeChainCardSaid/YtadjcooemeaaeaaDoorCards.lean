/-
  DERIVED. GIVEN WITH THE SEED: THE CARDS: each row of YtadjcooemeaaeaaDoorRows.lean that lists a variable, with what it lists TIED to the program's text (the seventh form; the later family's looks); each row that meets fmt, with fmt's text TOLD by the authors' own Lean function (tested against real Go, not proved from fmt's source: count such statements apart). THE CARD IS WHAT COUNTS. Prove the row's statement (the work); the ties are given (YtadjcooemeaaeaaDoorTie.lean); close each card by the builder's one call (the guide's Derived/Test/ToyasCard.lean, 'card_holds'). Laid BY PROGRAM, IN A SANDBOX (cutbox-door.mjs). By AI agents, Wed Nov 11 2026. No macro, syntax, notation, axiom, sorry.
-/
import Derived.Test.YtadjcooemeaaeaaDoorRows
import GoSem.ClaimSeven
namespace Go.Proofs.YtadjcooemeaaeaaDoor
namespace Rows

/-- THE TIED CARD OF 'yardlaw1.SpillPlays'. -/
def spillPlaysCard : Claim7 := { stood := { row := spillPlaysRow, standIns := [], harness := (true, "b7757ae2b781d175f67133b44ffe117a248bd1b688a3d893c41555dea8b6b2c4"), looks := true }, kinds := [], alts := [], laidByText := true, laidKinds := [.handle], laidTests := true, laidLooks := .later }
def SpillPlaysCardSaid : Prop := Claim7.holds Tryd.pinned (.plain (OpenSpec.ofChange spillPlaysSpec)) spillPlaysCard

/-- THE TIED CARD OF 'yardlaw4.PlanRing'. -/
def planRingCard : Claim7 := { stood := { row := planRingRow, standIns := [], harness := (true, "b7757ae2b781d175f67133b44ffe117a248bd1b688a3d893c41555dea8b6b2c4"), looks := true }, kinds := [], alts := [], laidByText := true, laidKinds := [.handle], laidTests := true, laidLooks := .later }
def PlanRingCardSaid : Prop := Claim7.holds Tryd.pinned (.plain (OpenSpec.ofChange planRingSpec)) planRingCard

/-- THE TIED CARD OF 'yardlaw4.JudgeChain'. -/
def judgeChainCard : Claim7 := { stood := { row := judgeChainRow, standIns := [], harness := (true, "b7757ae2b781d175f67133b44ffe117a248bd1b688a3d893c41555dea8b6b2c4"), looks := true }, kinds := [], alts := [], laidByText := true, laidKinds := [.handle], laidTests := true, laidLooks := .later }
def JudgeChainCardSaid : Prop := Claim7.holds Tryd.pinned (.plain (OpenSpec.ofChange judgeChainSpec)) judgeChainCard

/-- THE TIED CARD OF 'yardlaw3.GroupsTell'. -/
def groupsTellCard : Claim7 := { stood := { row := groupsTellRow, standIns := [], harness := (true, "b7757ae2b781d175f67133b44ffe117a248bd1b688a3d893c41555dea8b6b2c4"), looks := true }, kinds := [], alts := [], laidByText := true, laidKinds := [.handle], laidTests := true, laidLooks := .later }
def GroupsTellCardSaid : Prop := Claim7.holds Tryd.pinned (.plain (OpenSpec.ofChange groupsTellSpec)) groupsTellCard

/-- THE TIED CARD OF 'yardlaw1.JoinPlays'. -/
def joinPlaysCard : Claim7 := { stood := { row := joinPlaysRow, standIns := [], harness := (true, "b7757ae2b781d175f67133b44ffe117a248bd1b688a3d893c41555dea8b6b2c4"), looks := true }, kinds := [], alts := [], laidByText := true, laidKinds := [.handle], laidTests := true, laidLooks := .later }
def JoinPlaysCardSaid : Prop := Claim7.holds Tryd.pinned (.plain (OpenSpec.ofChange joinPlaysSpec)) joinPlaysCard

/-- THE TIED CARD OF 'yardlaw2.JudgeTells'. -/
def judgeTellsCard : Claim7 := { stood := { row := judgeTellsRow, standIns := [], harness := (true, "b7757ae2b781d175f67133b44ffe117a248bd1b688a3d893c41555dea8b6b2c4"), looks := true }, kinds := [], alts := [], laidByText := true, laidKinds := [.handle], laidTests := true, laidLooks := .later }
def JudgeTellsCardSaid : Prop := Claim7.holds Tryd.pinned (.plain (OpenSpec.ofChange judgeTellsSpec)) judgeTellsCard

/-- THE TIED CARD OF 'yardlaw2.JudgeSame'. -/
def judgeSameCard : Claim7 := { stood := { row := judgeSameRow, standIns := [], harness := (true, "b7757ae2b781d175f67133b44ffe117a248bd1b688a3d893c41555dea8b6b2c4"), looks := true }, kinds := [], alts := [], laidByText := true, laidKinds := [.handle], laidTests := true, laidLooks := .later }
def JudgeSameCardSaid : Prop := Claim7.holds Tryd.pinned (.plain (OpenSpec.ofChange judgeSameSpec)) judgeSameCard

/-- THE TIED CARD OF 'yardlaw3.BenchTells'. -/
def benchTellsCard : Claim7 := { stood := { row := benchTellsRow, standIns := [], harness := (true, "b7757ae2b781d175f67133b44ffe117a248bd1b688a3d893c41555dea8b6b2c4"), looks := true }, kinds := [], alts := [], laidByText := true, laidKinds := [.handle], laidTests := true, laidLooks := .later }
def BenchTellsCardSaid : Prop := Claim7.holds Tryd.pinned (.plain (OpenSpec.ofChange benchTellsSpec)) benchTellsCard

/-- THE TIED CARD OF 'yardlaw2.GreedyTells'. -/
def greedyTellsCard : Claim7 := { stood := { row := greedyTellsRow, standIns := [], harness := (true, "b7757ae2b781d175f67133b44ffe117a248bd1b688a3d893c41555dea8b6b2c4"), looks := true }, kinds := [], alts := [], laidByText := true, laidKinds := [.handle], laidTests := true, laidLooks := .later }
def GreedyTellsCardSaid : Prop := Claim7.holds Tryd.pinned (.plain (OpenSpec.ofChange greedyTellsSpec)) greedyTellsCard

/-- THE TIED CARD OF 'yardlaw1.DepthTells'. -/
def depthTellsCard : Claim7 := { stood := { row := depthTellsRow, standIns := [], harness := (true, "b7757ae2b781d175f67133b44ffe117a248bd1b688a3d893c41555dea8b6b2c4"), looks := true }, kinds := [], alts := [], laidByText := true, laidKinds := [.handle], laidTests := true, laidLooks := .later }
def DepthTellsCardSaid : Prop := Claim7.holds Tryd.pinned (.plain (OpenSpec.ofChange depthTellsSpec)) depthTellsCard

/-- THE SECOND FORM's CARD OF 'yardlaw1.SpillPlays'. -/
def spillPlaysUptoCard : Claim7 := { stood := { row := spillPlaysUptoRow, standIns := [], harness := (true, "b7757ae2b781d175f67133b44ffe117a248bd1b688a3d893c41555dea8b6b2c4"), looks := true }, kinds := [], alts := [], laidByText := true, laidKinds := [.handle], laidTests := true, laidLooks := .later }
def SpillPlaysUptoCardSaid : Prop := Claim7.holds Tryd.pinned (.plain (OpenSpec.upto spillPlaysSpec)) spillPlaysUptoCard

/-- THE SECOND FORM's CARD OF 'yardlaw4.PlanRing'. -/
def planRingUptoCard : Claim7 := { stood := { row := planRingUptoRow, standIns := [], harness := (true, "b7757ae2b781d175f67133b44ffe117a248bd1b688a3d893c41555dea8b6b2c4"), looks := true }, kinds := [], alts := [], laidByText := true, laidKinds := [.handle], laidTests := true, laidLooks := .later }
def PlanRingUptoCardSaid : Prop := Claim7.holds Tryd.pinned (.plain (OpenSpec.upto planRingSpec)) planRingUptoCard

/-- THE SECOND FORM's CARD OF 'yardlaw4.JudgeChain'. -/
def judgeChainUptoCard : Claim7 := { stood := { row := judgeChainUptoRow, standIns := [], harness := (true, "b7757ae2b781d175f67133b44ffe117a248bd1b688a3d893c41555dea8b6b2c4"), looks := true }, kinds := [], alts := [], laidByText := true, laidKinds := [.handle], laidTests := true, laidLooks := .later }
def JudgeChainUptoCardSaid : Prop := Claim7.holds Tryd.pinned (.plain (OpenSpec.upto judgeChainSpec)) judgeChainUptoCard

/-- THE SECOND FORM's CARD OF 'yardlaw3.GroupsTell'. -/
def groupsTellUptoCard : Claim7 := { stood := { row := groupsTellUptoRow, standIns := [], harness := (true, "b7757ae2b781d175f67133b44ffe117a248bd1b688a3d893c41555dea8b6b2c4"), looks := true }, kinds := [], alts := [], laidByText := true, laidKinds := [.handle], laidTests := true, laidLooks := .later }
def GroupsTellUptoCardSaid : Prop := Claim7.holds Tryd.pinned (.plain (OpenSpec.upto groupsTellSpec)) groupsTellUptoCard

/-- THE SECOND FORM's CARD OF 'yardlaw1.JoinPlays'. -/
def joinPlaysUptoCard : Claim7 := { stood := { row := joinPlaysUptoRow, standIns := [], harness := (true, "b7757ae2b781d175f67133b44ffe117a248bd1b688a3d893c41555dea8b6b2c4"), looks := true }, kinds := [], alts := [], laidByText := true, laidKinds := [.handle], laidTests := true, laidLooks := .later }
def JoinPlaysUptoCardSaid : Prop := Claim7.holds Tryd.pinned (.plain (OpenSpec.upto joinPlaysSpec)) joinPlaysUptoCard

/-- THE SECOND FORM's CARD OF 'yardlaw2.JudgeTells'. -/
def judgeTellsUptoCard : Claim7 := { stood := { row := judgeTellsUptoRow, standIns := [], harness := (true, "b7757ae2b781d175f67133b44ffe117a248bd1b688a3d893c41555dea8b6b2c4"), looks := true }, kinds := [], alts := [], laidByText := true, laidKinds := [.handle], laidTests := true, laidLooks := .later }
def JudgeTellsUptoCardSaid : Prop := Claim7.holds Tryd.pinned (.plain (OpenSpec.upto judgeTellsSpec)) judgeTellsUptoCard

/-- THE SECOND FORM's CARD OF 'yardlaw2.JudgeSame'. -/
def judgeSameUptoCard : Claim7 := { stood := { row := judgeSameUptoRow, standIns := [], harness := (true, "b7757ae2b781d175f67133b44ffe117a248bd1b688a3d893c41555dea8b6b2c4"), looks := true }, kinds := [], alts := [], laidByText := true, laidKinds := [.handle], laidTests := true, laidLooks := .later }
def JudgeSameUptoCardSaid : Prop := Claim7.holds Tryd.pinned (.plain (OpenSpec.upto judgeSameSpec)) judgeSameUptoCard

/-- THE SECOND FORM's CARD OF 'yardlaw3.BenchTells'. -/
def benchTellsUptoCard : Claim7 := { stood := { row := benchTellsUptoRow, standIns := [], harness := (true, "b7757ae2b781d175f67133b44ffe117a248bd1b688a3d893c41555dea8b6b2c4"), looks := true }, kinds := [], alts := [], laidByText := true, laidKinds := [.handle], laidTests := true, laidLooks := .later }
def BenchTellsUptoCardSaid : Prop := Claim7.holds Tryd.pinned (.plain (OpenSpec.upto benchTellsSpec)) benchTellsUptoCard

/-- THE SECOND FORM's CARD OF 'yardlaw2.GreedyTells'. -/
def greedyTellsUptoCard : Claim7 := { stood := { row := greedyTellsUptoRow, standIns := [], harness := (true, "b7757ae2b781d175f67133b44ffe117a248bd1b688a3d893c41555dea8b6b2c4"), looks := true }, kinds := [], alts := [], laidByText := true, laidKinds := [.handle], laidTests := true, laidLooks := .later }
def GreedyTellsUptoCardSaid : Prop := Claim7.holds Tryd.pinned (.plain (OpenSpec.upto greedyTellsSpec)) greedyTellsUptoCard

/-- THE SECOND FORM's CARD OF 'yardlaw1.DepthTells'. -/
def depthTellsUptoCard : Claim7 := { stood := { row := depthTellsUptoRow, standIns := [], harness := (true, "b7757ae2b781d175f67133b44ffe117a248bd1b688a3d893c41555dea8b6b2c4"), looks := true }, kinds := [], alts := [], laidByText := true, laidKinds := [.handle], laidTests := true, laidLooks := .later }
def DepthTellsUptoCardSaid : Prop := Claim7.holds Tryd.pinned (.plain (OpenSpec.upto depthTellsSpec)) depthTellsUptoCard
end Rows
end Go.Proofs.YtadjcooemeaaeaaDoor
