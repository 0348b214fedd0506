/-
  DERIVED. GIVEN WITH THE SEED: THE CARDS: each row of YtgblgolkajdfbaaGreatDoorRows.lean that lists a variable, with what it lists TIED to the program's text (the seventh form; the later family's looks); each row that meets fmt, with fmt's text TOLD by the authors' own Lean function (tested against real Go, not proved from fmt's source: count such statements apart). THE CARD IS WHAT COUNTS. Prove the row's statement (the work); the ties are given (YtgblgolkajdfbaaGreatDoorTie.lean); close each card by the builder's one call (the guide's Derived/Test/ToyasCard.lean, 'card_holds'). Laid BY PROGRAM, IN A SANDBOX (cutbox-door.mjs). By AI agents, Wed Nov 11 2026. No macro, syntax, notation, axiom, sorry.
-/
import Derived.Test.YtgblgolkajdfbaaGreatDoorRows
import GoSem.ClaimSeven
namespace Go.Proofs.YtgblgolkajdfbaaGreatDoor
namespace Rows

/-- THE TIED CARD OF 'burnishlaw18.CheckTells'. -/
def checkTellsCard : Claim7 := { stood := { row := checkTellsRow, standIns := [], harness := (true, "f78d072aba23bd804b0a645272e2ecaa25ac59cbedd0d57d211f0a4e528be7f5"), looks := true }, kinds := [], alts := [], laidByText := true, laidKinds := [.data, .data, .widerDeep, .widerDeep, .data, .data, .data, .data, .data, .sentinel, .sentinel, .pinned, .pinned], laidTests := true, laidLooks := .later }
def CheckTellsCardSaid : Prop := Claim7.holds Tryz.pinned (.plain (OpenSpec.ofChange checkTellsSpec)) checkTellsCard

/-- THE TIED CARD OF 'burnishlaw18.CheckFront'. -/
def checkFrontCard : Claim7 := { stood := { row := checkFrontRow, standIns := [], harness := (true, "f78d072aba23bd804b0a645272e2ecaa25ac59cbedd0d57d211f0a4e528be7f5"), looks := true }, kinds := [], alts := [], laidByText := true, laidKinds := [.data, .data, .widerDeep, .widerDeep, .data, .data, .data, .data, .data, .sentinel, .sentinel, .pinned, .pinned], laidTests := true, laidLooks := .later }
def CheckFrontCardSaid : Prop := Claim7.holds Tryz.pinned (.plain (OpenSpec.ofChange checkFrontSpec)) checkFrontCard

/-- THE TIED CARD OF 'burnishlaw18.CheckFirst'. -/
def checkFirstCard : Claim7 := { stood := { row := checkFirstRow, standIns := [], harness := (true, "f78d072aba23bd804b0a645272e2ecaa25ac59cbedd0d57d211f0a4e528be7f5"), looks := true }, kinds := [], alts := [], laidByText := true, laidKinds := [.data, .data, .widerDeep, .widerDeep, .data, .data, .data, .data, .data, .sentinel, .sentinel, .pinned, .pinned], laidTests := true, laidLooks := .later }
def CheckFirstCardSaid : Prop := Claim7.holds Tryz.pinned (.plain (OpenSpec.ofChange checkFirstSpec)) checkFirstCard

/-- THE TIED CARD OF 'burnishlaw18.CheckPrograms'. -/
def checkProgramsCard : Claim7 := { stood := { row := checkProgramsRow, standIns := [], harness := (true, "f78d072aba23bd804b0a645272e2ecaa25ac59cbedd0d57d211f0a4e528be7f5"), looks := true }, kinds := [], alts := [], laidByText := true, laidKinds := [.data, .data, .widerDeep, .widerDeep, .data, .data, .data, .data, .data, .sentinel, .sentinel, .pinned, .pinned], laidTests := true, laidLooks := .later }
def CheckProgramsCardSaid : Prop := Claim7.holds Tryz.pinned (.plain (OpenSpec.ofChange checkProgramsSpec)) checkProgramsCard

/-- THE TIED CARD OF 'burnishlaw18.CheckRanges'. -/
def checkRangesCard : Claim7 := { stood := { row := checkRangesRow, standIns := [], harness := (true, "f78d072aba23bd804b0a645272e2ecaa25ac59cbedd0d57d211f0a4e528be7f5"), looks := true }, kinds := [], alts := [], laidByText := true, laidKinds := [.data, .data, .widerDeep, .widerDeep, .data, .data, .data, .data, .data, .sentinel, .sentinel, .pinned, .pinned], laidTests := true, laidLooks := .later }
def CheckRangesCardSaid : Prop := Claim7.holds Tryz.pinned (.plain (OpenSpec.ofChange checkRangesSpec)) checkRangesCard

/-- THE SECOND FORM's CARD OF 'burnishlaw18.CheckTells'. -/
def checkTellsUptoCard : Claim7 := { stood := { row := checkTellsUptoRow, standIns := [], harness := (true, "f78d072aba23bd804b0a645272e2ecaa25ac59cbedd0d57d211f0a4e528be7f5"), looks := true }, kinds := [], alts := [], laidByText := true, laidKinds := [.data, .data, .widerDeep, .widerDeep, .data, .data, .data, .data, .data, .sentinel, .sentinel, .pinned, .pinned], laidTests := true, laidLooks := .later }
def CheckTellsUptoCardSaid : Prop := Claim7.holds Tryz.pinned (.plain (OpenSpec.upto checkTellsSpec)) checkTellsUptoCard

/-- THE SECOND FORM's CARD OF 'burnishlaw18.CheckFront'. -/
def checkFrontUptoCard : Claim7 := { stood := { row := checkFrontUptoRow, standIns := [], harness := (true, "f78d072aba23bd804b0a645272e2ecaa25ac59cbedd0d57d211f0a4e528be7f5"), looks := true }, kinds := [], alts := [], laidByText := true, laidKinds := [.data, .data, .widerDeep, .widerDeep, .data, .data, .data, .data, .data, .sentinel, .sentinel, .pinned, .pinned], laidTests := true, laidLooks := .later }
def CheckFrontUptoCardSaid : Prop := Claim7.holds Tryz.pinned (.plain (OpenSpec.upto checkFrontSpec)) checkFrontUptoCard

/-- THE SECOND FORM's CARD OF 'burnishlaw18.CheckFirst'. -/
def checkFirstUptoCard : Claim7 := { stood := { row := checkFirstUptoRow, standIns := [], harness := (true, "f78d072aba23bd804b0a645272e2ecaa25ac59cbedd0d57d211f0a4e528be7f5"), looks := true }, kinds := [], alts := [], laidByText := true, laidKinds := [.data, .data, .widerDeep, .widerDeep, .data, .data, .data, .data, .data, .sentinel, .sentinel, .pinned, .pinned], laidTests := true, laidLooks := .later }
def CheckFirstUptoCardSaid : Prop := Claim7.holds Tryz.pinned (.plain (OpenSpec.upto checkFirstSpec)) checkFirstUptoCard

/-- THE SECOND FORM's CARD OF 'burnishlaw18.CheckPrograms'. -/
def checkProgramsUptoCard : Claim7 := { stood := { row := checkProgramsUptoRow, standIns := [], harness := (true, "f78d072aba23bd804b0a645272e2ecaa25ac59cbedd0d57d211f0a4e528be7f5"), looks := true }, kinds := [], alts := [], laidByText := true, laidKinds := [.data, .data, .widerDeep, .widerDeep, .data, .data, .data, .data, .data, .sentinel, .sentinel, .pinned, .pinned], laidTests := true, laidLooks := .later }
def CheckProgramsUptoCardSaid : Prop := Claim7.holds Tryz.pinned (.plain (OpenSpec.upto checkProgramsSpec)) checkProgramsUptoCard

/-- THE SECOND FORM's CARD OF 'burnishlaw18.CheckRanges'. -/
def checkRangesUptoCard : Claim7 := { stood := { row := checkRangesUptoRow, standIns := [], harness := (true, "f78d072aba23bd804b0a645272e2ecaa25ac59cbedd0d57d211f0a4e528be7f5"), looks := true }, kinds := [], alts := [], laidByText := true, laidKinds := [.data, .data, .widerDeep, .widerDeep, .data, .data, .data, .data, .data, .sentinel, .sentinel, .pinned, .pinned], laidTests := true, laidLooks := .later }
def CheckRangesUptoCardSaid : Prop := Claim7.holds Tryz.pinned (.plain (OpenSpec.upto checkRangesSpec)) checkRangesUptoCard
end Rows
end Go.Proofs.YtgblgolkajdfbaaGreatDoor
