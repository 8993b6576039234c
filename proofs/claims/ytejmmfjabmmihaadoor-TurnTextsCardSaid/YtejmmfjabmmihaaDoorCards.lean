/-
  DERIVED. GIVEN WITH THE SEED: THE CARDS: each row of YtejmmfjabmmihaaDoorRows.lean that lists a variable, with what it lists TIED to the program's text (the seventh form; the later family's looks); each row that meets fmt, with fmt's text TOLD by the authors' own Lean function (tested against real Go, not proved from fmt's source: count such statements apart). THE CARD IS WHAT COUNTS. Prove the row's statement (the work); the ties are given (YtejmmfjabmmihaaDoorTie.lean); close each card by the builder's one call (the guide's Derived/Test/ToyasCard.lean, 'card_holds'). Laid BY PROGRAM, IN A SANDBOX (cutbox-door.mjs). By AI agents, Wed Nov 11 2026. No macro, syntax, notation, axiom, sorry.
-/
import Derived.Test.YtejmmfjabmmihaaDoorRows
import GoSem.ClaimSeven
namespace Go.Proofs.YtejmmfjabmmihaaDoor
namespace Rows

/-- THE TIED CARD OF 'drownerlaw01.TurnMeets'. -/
def turnMeetsCard : Claim7 := { stood := { row := turnMeetsRow, standIns := [], harness := (true, "dce12a27b481191c28ed651d3856891fda02b42f1fc9d31759ae08a7b3dce729"), looks := false }, kinds := [], alts := [], laidByText := true, laidKinds := [.data, .data, .data], laidTests := true, laidLooks := .later }
def TurnMeetsCardSaid : Prop := Claim7.holds Tryd.pinned (.plain (OpenSpec.ofChange turnMeetsSpec)) turnMeetsCard

/-- THE TIED CARD OF 'drownerlaw01.TurnTexts'. -/
def turnTextsCard : Claim7 := { stood := { row := turnTextsRow, standIns := [], harness := (true, "dce12a27b481191c28ed651d3856891fda02b42f1fc9d31759ae08a7b3dce729"), looks := false }, kinds := [], alts := [], laidByText := true, laidKinds := [.data, .data, .data], laidTests := true, laidLooks := .later }
def TurnTextsCardSaid : Prop := Claim7.holds Tryd.pinned (.plain (OpenSpec.ofChange turnTextsSpec)) turnTextsCard

/-- THE TIED CARD OF 'drownerlaw01.TurnResidues'. -/
def turnResiduesCard : Claim7 := { stood := { row := turnResiduesRow, standIns := [], harness := (true, "dce12a27b481191c28ed651d3856891fda02b42f1fc9d31759ae08a7b3dce729"), looks := false }, kinds := [], alts := [], laidByText := true, laidKinds := [.data, .data, .data], laidTests := true, laidLooks := .later }
def TurnResiduesCardSaid : Prop := Claim7.holds Tryd.pinned (.plain (OpenSpec.ofChange turnResiduesSpec)) turnResiduesCard

/-- THE TIED CARD OF 'drownerlaw01.TurnReadsBack'. -/
def turnReadsBackCard : Claim7 := { stood := { row := turnReadsBackRow, standIns := [], harness := (true, "dce12a27b481191c28ed651d3856891fda02b42f1fc9d31759ae08a7b3dce729"), looks := false }, kinds := [], alts := [], laidByText := true, laidKinds := [.data, .data, .data], laidTests := true, laidLooks := .later }
def TurnReadsBackCardSaid : Prop := Claim7.holds Tryd.pinned (.plain (OpenSpec.ofChange turnReadsBackSpec)) turnReadsBackCard

/-- THE TIED CARD OF 'drownerlaw01.TurnParts'. -/
def turnPartsCard : Claim7 := { stood := { row := turnPartsRow, standIns := [], harness := (true, "dce12a27b481191c28ed651d3856891fda02b42f1fc9d31759ae08a7b3dce729"), looks := false }, kinds := [], alts := [], laidByText := true, laidKinds := [.data, .data, .data], laidTests := true, laidLooks := .later }
def TurnPartsCardSaid : Prop := Claim7.holds Tryd.pinned (.plain (OpenSpec.ofChange turnPartsSpec)) turnPartsCard

/-- THE TIED CARD OF 'drownerlaw01.TurnSame'. -/
def turnSameCard : Claim7 := { stood := { row := turnSameRow, standIns := [], harness := (true, "dce12a27b481191c28ed651d3856891fda02b42f1fc9d31759ae08a7b3dce729"), looks := false }, kinds := [], alts := [], laidByText := true, laidKinds := [.data, .data, .data], laidTests := true, laidLooks := .later }
def TurnSameCardSaid : Prop := Claim7.holds Tryd.pinned (.plain (OpenSpec.ofChange turnSameSpec)) turnSameCard

/-- THE TIED CARD OF 'drownerlaw01.TurnLists'. -/
def turnListsCard : Claim7 := { stood := { row := turnListsRow, standIns := [], harness := (true, "dce12a27b481191c28ed651d3856891fda02b42f1fc9d31759ae08a7b3dce729"), looks := false }, kinds := [], alts := [], laidByText := true, laidKinds := [.data, .data, .data], laidTests := true, laidLooks := .later }
def TurnListsCardSaid : Prop := Claim7.holds Tryd.pinned (.plain (OpenSpec.ofChange turnListsSpec)) turnListsCard

/-- THE TIED CARD OF 'drownerlaw01.TurnPeriods'. -/
def turnPeriodsCard : Claim7 := { stood := { row := turnPeriodsRow, standIns := [], harness := (true, "dce12a27b481191c28ed651d3856891fda02b42f1fc9d31759ae08a7b3dce729"), looks := false }, kinds := [], alts := [], laidByText := true, laidKinds := [.data, .data, .data], laidTests := true, laidLooks := .later }
def TurnPeriodsCardSaid : Prop := Claim7.holds Tryd.pinned (.plain (OpenSpec.ofChange turnPeriodsSpec)) turnPeriodsCard

/-- THE TIED CARD OF 'drownerlaw01.TurnMinutes'. -/
def turnMinutesCard : Claim7 := { stood := { row := turnMinutesRow, standIns := [], harness := (true, "dce12a27b481191c28ed651d3856891fda02b42f1fc9d31759ae08a7b3dce729"), looks := false }, kinds := [], alts := [], laidByText := true, laidKinds := [.data, .data, .data], laidTests := true, laidLooks := .later }
def TurnMinutesCardSaid : Prop := Claim7.holds Tryd.pinned (.plain (OpenSpec.ofChange turnMinutesSpec)) turnMinutesCard

/-- THE TIED CARD OF 'drownerlaw01.TurnNext'. -/
def turnNextCard : Claim7 := { stood := { row := turnNextRow, standIns := [], harness := (true, "dce12a27b481191c28ed651d3856891fda02b42f1fc9d31759ae08a7b3dce729"), looks := false }, kinds := [], alts := [], laidByText := true, laidKinds := [.data, .data, .data], laidTests := true, laidLooks := .later }
def TurnNextCardSaid : Prop := Claim7.holds Tryd.pinned (.plain (OpenSpec.ofChange turnNextSpec)) turnNextCard

/-- THE TIED CARD OF 'drownerlaw01.TurnAgain'. -/
def turnAgainCard : Claim7 := { stood := { row := turnAgainRow, standIns := [], harness := (true, "dce12a27b481191c28ed651d3856891fda02b42f1fc9d31759ae08a7b3dce729"), looks := false }, kinds := [], alts := [], laidByText := true, laidKinds := [.data, .data, .data], laidTests := true, laidLooks := .later }
def TurnAgainCardSaid : Prop := Claim7.holds Tryd.pinned (.plain (OpenSpec.ofChange turnAgainSpec)) turnAgainCard

/-- THE TIED CARD OF 'drownerlaw01.TurnWhole'. -/
def turnWholeCard : Claim7 := { stood := { row := turnWholeRow, standIns := [], harness := (true, "dce12a27b481191c28ed651d3856891fda02b42f1fc9d31759ae08a7b3dce729"), looks := false }, kinds := [], alts := [], laidByText := true, laidKinds := [.data, .data, .data], laidTests := true, laidLooks := .later }
def TurnWholeCardSaid : Prop := Claim7.holds Tryd.pinned (.plain (OpenSpec.ofChange turnWholeSpec)) turnWholeCard

/-- THE SECOND FORM's CARD OF 'drownerlaw01.TurnMeets'. -/
def turnMeetsUptoCard : Claim7 := { stood := { row := turnMeetsUptoRow, standIns := [], harness := (true, "dce12a27b481191c28ed651d3856891fda02b42f1fc9d31759ae08a7b3dce729"), looks := false }, kinds := [], alts := [], laidByText := true, laidKinds := [.data, .data, .data], laidTests := true, laidLooks := .later }
def TurnMeetsUptoCardSaid : Prop := Claim7.holds Tryd.pinned (.plain (OpenSpec.upto turnMeetsSpec)) turnMeetsUptoCard

/-- THE SECOND FORM's CARD OF 'drownerlaw01.TurnTexts'. -/
def turnTextsUptoCard : Claim7 := { stood := { row := turnTextsUptoRow, standIns := [], harness := (true, "dce12a27b481191c28ed651d3856891fda02b42f1fc9d31759ae08a7b3dce729"), looks := false }, kinds := [], alts := [], laidByText := true, laidKinds := [.data, .data, .data], laidTests := true, laidLooks := .later }
def TurnTextsUptoCardSaid : Prop := Claim7.holds Tryd.pinned (.plain (OpenSpec.upto turnTextsSpec)) turnTextsUptoCard

/-- THE SECOND FORM's CARD OF 'drownerlaw01.TurnResidues'. -/
def turnResiduesUptoCard : Claim7 := { stood := { row := turnResiduesUptoRow, standIns := [], harness := (true, "dce12a27b481191c28ed651d3856891fda02b42f1fc9d31759ae08a7b3dce729"), looks := false }, kinds := [], alts := [], laidByText := true, laidKinds := [.data, .data, .data], laidTests := true, laidLooks := .later }
def TurnResiduesUptoCardSaid : Prop := Claim7.holds Tryd.pinned (.plain (OpenSpec.upto turnResiduesSpec)) turnResiduesUptoCard

/-- THE SECOND FORM's CARD OF 'drownerlaw01.TurnReadsBack'. -/
def turnReadsBackUptoCard : Claim7 := { stood := { row := turnReadsBackUptoRow, standIns := [], harness := (true, "dce12a27b481191c28ed651d3856891fda02b42f1fc9d31759ae08a7b3dce729"), looks := false }, kinds := [], alts := [], laidByText := true, laidKinds := [.data, .data, .data], laidTests := true, laidLooks := .later }
def TurnReadsBackUptoCardSaid : Prop := Claim7.holds Tryd.pinned (.plain (OpenSpec.upto turnReadsBackSpec)) turnReadsBackUptoCard

/-- THE SECOND FORM's CARD OF 'drownerlaw01.TurnParts'. -/
def turnPartsUptoCard : Claim7 := { stood := { row := turnPartsUptoRow, standIns := [], harness := (true, "dce12a27b481191c28ed651d3856891fda02b42f1fc9d31759ae08a7b3dce729"), looks := false }, kinds := [], alts := [], laidByText := true, laidKinds := [.data, .data, .data], laidTests := true, laidLooks := .later }
def TurnPartsUptoCardSaid : Prop := Claim7.holds Tryd.pinned (.plain (OpenSpec.upto turnPartsSpec)) turnPartsUptoCard

/-- THE SECOND FORM's CARD OF 'drownerlaw01.TurnSame'. -/
def turnSameUptoCard : Claim7 := { stood := { row := turnSameUptoRow, standIns := [], harness := (true, "dce12a27b481191c28ed651d3856891fda02b42f1fc9d31759ae08a7b3dce729"), looks := false }, kinds := [], alts := [], laidByText := true, laidKinds := [.data, .data, .data], laidTests := true, laidLooks := .later }
def TurnSameUptoCardSaid : Prop := Claim7.holds Tryd.pinned (.plain (OpenSpec.upto turnSameSpec)) turnSameUptoCard

/-- THE SECOND FORM's CARD OF 'drownerlaw01.TurnLists'. -/
def turnListsUptoCard : Claim7 := { stood := { row := turnListsUptoRow, standIns := [], harness := (true, "dce12a27b481191c28ed651d3856891fda02b42f1fc9d31759ae08a7b3dce729"), looks := false }, kinds := [], alts := [], laidByText := true, laidKinds := [.data, .data, .data], laidTests := true, laidLooks := .later }
def TurnListsUptoCardSaid : Prop := Claim7.holds Tryd.pinned (.plain (OpenSpec.upto turnListsSpec)) turnListsUptoCard

/-- THE SECOND FORM's CARD OF 'drownerlaw01.TurnPeriods'. -/
def turnPeriodsUptoCard : Claim7 := { stood := { row := turnPeriodsUptoRow, standIns := [], harness := (true, "dce12a27b481191c28ed651d3856891fda02b42f1fc9d31759ae08a7b3dce729"), looks := false }, kinds := [], alts := [], laidByText := true, laidKinds := [.data, .data, .data], laidTests := true, laidLooks := .later }
def TurnPeriodsUptoCardSaid : Prop := Claim7.holds Tryd.pinned (.plain (OpenSpec.upto turnPeriodsSpec)) turnPeriodsUptoCard

/-- THE SECOND FORM's CARD OF 'drownerlaw01.TurnMinutes'. -/
def turnMinutesUptoCard : Claim7 := { stood := { row := turnMinutesUptoRow, standIns := [], harness := (true, "dce12a27b481191c28ed651d3856891fda02b42f1fc9d31759ae08a7b3dce729"), looks := false }, kinds := [], alts := [], laidByText := true, laidKinds := [.data, .data, .data], laidTests := true, laidLooks := .later }
def TurnMinutesUptoCardSaid : Prop := Claim7.holds Tryd.pinned (.plain (OpenSpec.upto turnMinutesSpec)) turnMinutesUptoCard

/-- THE SECOND FORM's CARD OF 'drownerlaw01.TurnNext'. -/
def turnNextUptoCard : Claim7 := { stood := { row := turnNextUptoRow, standIns := [], harness := (true, "dce12a27b481191c28ed651d3856891fda02b42f1fc9d31759ae08a7b3dce729"), looks := false }, kinds := [], alts := [], laidByText := true, laidKinds := [.data, .data, .data], laidTests := true, laidLooks := .later }
def TurnNextUptoCardSaid : Prop := Claim7.holds Tryd.pinned (.plain (OpenSpec.upto turnNextSpec)) turnNextUptoCard

/-- THE SECOND FORM's CARD OF 'drownerlaw01.TurnAgain'. -/
def turnAgainUptoCard : Claim7 := { stood := { row := turnAgainUptoRow, standIns := [], harness := (true, "dce12a27b481191c28ed651d3856891fda02b42f1fc9d31759ae08a7b3dce729"), looks := false }, kinds := [], alts := [], laidByText := true, laidKinds := [.data, .data, .data], laidTests := true, laidLooks := .later }
def TurnAgainUptoCardSaid : Prop := Claim7.holds Tryd.pinned (.plain (OpenSpec.upto turnAgainSpec)) turnAgainUptoCard

/-- THE SECOND FORM's CARD OF 'drownerlaw01.TurnWhole'. -/
def turnWholeUptoCard : Claim7 := { stood := { row := turnWholeUptoRow, standIns := [], harness := (true, "dce12a27b481191c28ed651d3856891fda02b42f1fc9d31759ae08a7b3dce729"), looks := false }, kinds := [], alts := [], laidByText := true, laidKinds := [.data, .data, .data], laidTests := true, laidLooks := .later }
def TurnWholeUptoCardSaid : Prop := Claim7.holds Tryd.pinned (.plain (OpenSpec.upto turnWholeSpec)) turnWholeUptoCard
end Rows
end Go.Proofs.YtejmmfjabmmihaaDoor
