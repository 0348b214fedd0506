/-
  DERIVED. GIVEN WITH THE SEED: THE CARDS: each row of YtbjengfoaobdbaaGreatDoorRows.lean that lists a variable, with what it lists TIED to the program's text (the seventh form; the later family's looks); each row that meets fmt, with fmt's text TOLD by the authors' own Lean function (tested against real Go, not proved from fmt's source: count such statements apart). THE CARD IS WHAT COUNTS. Prove the row's statement (the work); the ties are given (YtbjengfoaobdbaaGreatDoorTie.lean); close each card by the builder's one call (the guide's Derived/Test/ToyasCard.lean, 'card_holds'). Laid BY PROGRAM, IN A SANDBOX (cutbox-door.mjs). By AI agents, Wed Nov 11 2026. No macro, syntax, notation, axiom, sorry.
-/
import Derived.Test.YtbjengfoaobdbaaGreatDoorRows
import GoSem.ClaimSeven
namespace Go.Proofs.YtbjengfoaobdbaaGreatDoor
namespace Rows

/-- THE TIED CARD OF 'burnishlaw16.DecimalGrows'. -/
def decimalGrowsCard : Claim7 := { stood := { row := decimalGrowsRow, standIns := [], harness := (true, "264eccba84d7ad4b1ddfc9fa8c5b06e28af6680d6c292aa3628f8268de4792cb"), looks := true }, kinds := [], alts := [], laidByText := true, laidKinds := [.data, .data, .widerDeep, .widerDeep, .data, .data, .data, .data, .data, .data, .sentinel, .sentinel, .pinned, .pinned, .pinned], laidTests := true, laidLooks := .later }
def DecimalGrowsCardSaid : Prop := Claim7.holds Tryz.pinned (.plain (OpenSpec.ofChange decimalGrowsSpec)) decimalGrowsCard

/-- THE TIED CARD OF 'burnishlaw16.DecimalWrong'. -/
def decimalWrongCard : Claim7 := { stood := { row := decimalWrongRow, standIns := [], harness := (true, "264eccba84d7ad4b1ddfc9fa8c5b06e28af6680d6c292aa3628f8268de4792cb"), looks := true }, kinds := [], alts := [], laidByText := true, laidKinds := [.data, .data, .widerDeep, .widerDeep, .data, .data, .data, .data, .data, .data, .sentinel, .sentinel, .pinned, .pinned, .pinned], laidTests := true, laidLooks := .later }
def DecimalWrongCardSaid : Prop := Claim7.holds Tryz.pinned (.plain (OpenSpec.ofChange decimalWrongSpec)) decimalWrongCard

/-- THE TIED CARD OF 'burnishlaw16.DecimalBack'. -/
def decimalBackCard : Claim7 := { stood := { row := decimalBackRow, standIns := [], harness := (true, "264eccba84d7ad4b1ddfc9fa8c5b06e28af6680d6c292aa3628f8268de4792cb"), looks := true }, kinds := [], alts := [], laidByText := true, laidKinds := [.data, .data, .widerDeep, .widerDeep, .data, .data, .data, .data, .data, .data, .sentinel, .sentinel, .pinned, .pinned, .pinned], laidTests := true, laidLooks := .later }
def DecimalBackCardSaid : Prop := Claim7.holds Tryz.pinned (.plain (OpenSpec.ofChange decimalBackSpec)) decimalBackCard

/-- THE SECOND FORM's CARD OF 'burnishlaw16.DecimalGrows'. -/
def decimalGrowsUptoCard : Claim7 := { stood := { row := decimalGrowsUptoRow, standIns := [], harness := (true, "264eccba84d7ad4b1ddfc9fa8c5b06e28af6680d6c292aa3628f8268de4792cb"), looks := true }, kinds := [], alts := [], laidByText := true, laidKinds := [.data, .data, .widerDeep, .widerDeep, .data, .data, .data, .data, .data, .data, .sentinel, .sentinel, .pinned, .pinned, .pinned], laidTests := true, laidLooks := .later }
def DecimalGrowsUptoCardSaid : Prop := Claim7.holds Tryz.pinned (.plain (OpenSpec.upto decimalGrowsSpec)) decimalGrowsUptoCard

/-- THE SECOND FORM's CARD OF 'burnishlaw16.DecimalWrong'. -/
def decimalWrongUptoCard : Claim7 := { stood := { row := decimalWrongUptoRow, standIns := [], harness := (true, "264eccba84d7ad4b1ddfc9fa8c5b06e28af6680d6c292aa3628f8268de4792cb"), looks := true }, kinds := [], alts := [], laidByText := true, laidKinds := [.data, .data, .widerDeep, .widerDeep, .data, .data, .data, .data, .data, .data, .sentinel, .sentinel, .pinned, .pinned, .pinned], laidTests := true, laidLooks := .later }
def DecimalWrongUptoCardSaid : Prop := Claim7.holds Tryz.pinned (.plain (OpenSpec.upto decimalWrongSpec)) decimalWrongUptoCard

/-- THE SECOND FORM's CARD OF 'burnishlaw16.DecimalBack'. -/
def decimalBackUptoCard : Claim7 := { stood := { row := decimalBackUptoRow, standIns := [], harness := (true, "264eccba84d7ad4b1ddfc9fa8c5b06e28af6680d6c292aa3628f8268de4792cb"), looks := true }, kinds := [], alts := [], laidByText := true, laidKinds := [.data, .data, .widerDeep, .widerDeep, .data, .data, .data, .data, .data, .data, .sentinel, .sentinel, .pinned, .pinned, .pinned], laidTests := true, laidLooks := .later }
def DecimalBackUptoCardSaid : Prop := Claim7.holds Tryz.pinned (.plain (OpenSpec.upto decimalBackSpec)) decimalBackUptoCard
end Rows
end Go.Proofs.YtbjengfoaobdbaaGreatDoor
