/-
  DERIVED. GIVEN WITH THE SEED: THE CARDS: each row of YtejcmdoalhnpeaaGreatDoorRows.lean that lists a variable, with what it lists TIED to the program's text (the seventh form; the later family's looks); each row that meets fmt, with fmt's text TOLD by the authors' own Lean function (tested against real Go, not proved from fmt's source: count such statements apart). THE CARD IS WHAT COUNTS. Prove the row's statement (the work); the ties are given (YtejcmdoalhnpeaaGreatDoorTie.lean); close each card by the builder's one call (the guide's Derived/Test/ToyasCard.lean, 'card_holds'). Laid BY PROGRAM, IN A SANDBOX (cutbox-door.mjs). By AI agents, Wed Nov 11 2026. No macro, syntax, notation, axiom, sorry.
-/
import Derived.Test.YtejcmdoalhnpeaaGreatDoorRows
import GoSem.ClaimSeven
namespace Go.Proofs.YtejcmdoalhnpeaaGreatDoor
namespace Rows

/-- THE TIED CARD OF 'drownerlaw01.TurnUnions'. -/
def turnUnionsCard : Claim7 := { stood := { row := turnUnionsRow, standIns := [], harness := (true, "ecdf01401bbc7de86e14cccc98d8469306793a2f94857c42f6ab3c0303534cbb"), looks := false }, kinds := [], alts := [], laidByText := true, laidKinds := [.data, .data, .data], laidTests := true, laidLooks := .later }
def TurnUnionsCardSaid : Prop := Claim7.holds Tryz.pinned (.plain (OpenSpec.ofChange turnUnionsSpec)) turnUnionsCard

/-- THE TIED CARD OF 'drownerlaw01.TurnJoins'. -/
def turnJoinsCard : Claim7 := { stood := { row := turnJoinsRow, standIns := [], harness := (true, "ecdf01401bbc7de86e14cccc98d8469306793a2f94857c42f6ab3c0303534cbb"), looks := false }, kinds := [], alts := [], laidByText := true, laidKinds := [.data, .data, .data], laidTests := true, laidLooks := .later }
def TurnJoinsCardSaid : Prop := Claim7.holds Tryz.pinned (.plain (OpenSpec.ofChange turnJoinsSpec)) turnJoinsCard

/-- THE SECOND FORM's CARD OF 'drownerlaw01.TurnUnions'. -/
def turnUnionsUptoCard : Claim7 := { stood := { row := turnUnionsUptoRow, standIns := [], harness := (true, "ecdf01401bbc7de86e14cccc98d8469306793a2f94857c42f6ab3c0303534cbb"), looks := false }, kinds := [], alts := [], laidByText := true, laidKinds := [.data, .data, .data], laidTests := true, laidLooks := .later }
def TurnUnionsUptoCardSaid : Prop := Claim7.holds Tryz.pinned (.plain (OpenSpec.upto turnUnionsSpec)) turnUnionsUptoCard

/-- THE SECOND FORM's CARD OF 'drownerlaw01.TurnJoins'. -/
def turnJoinsUptoCard : Claim7 := { stood := { row := turnJoinsUptoRow, standIns := [], harness := (true, "ecdf01401bbc7de86e14cccc98d8469306793a2f94857c42f6ab3c0303534cbb"), looks := false }, kinds := [], alts := [], laidByText := true, laidKinds := [.data, .data, .data], laidTests := true, laidLooks := .later }
def TurnJoinsUptoCardSaid : Prop := Claim7.holds Tryz.pinned (.plain (OpenSpec.upto turnJoinsSpec)) turnJoinsUptoCard
end Rows
end Go.Proofs.YtejcmdoalhnpeaaGreatDoor
