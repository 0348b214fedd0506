/-
  DERIVED. GIVEN WITH THE SEED: THE CARDS: each row of YtgblgolkajdfbaaDoorRows.lean that lists a variable, with what it lists TIED to the program's text (the seventh form; the later family's looks); each row that meets fmt, with fmt's text TOLD by the authors' own Lean function (tested against real Go, not proved from fmt's source: count such statements apart). THE CARD IS WHAT COUNTS. Prove the row's statement (the work); the ties are given (YtgblgolkajdfbaaDoorTie.lean); close each card by the builder's one call (the guide's Derived/Test/ToyasCard.lean, 'card_holds'). Laid BY PROGRAM, IN A SANDBOX (cutbox-door.mjs). By AI agents, Wed Nov 11 2026. No macro, syntax, notation, axiom, sorry.
-/
import Derived.Test.YtgblgolkajdfbaaDoorRows
import GoSem.ClaimSeven
namespace Go.Proofs.YtgblgolkajdfbaaDoor
namespace Rows

/-- THE TIED CARD OF 'burnishlaw17.ParseFirst'. -/
def parseFirstCard : Claim7 := { stood := { row := parseFirstRow, standIns := [], harness := (true, "d28ac0c0da236ae3651850e99b51d7c5bf0fab37265d67c52c538af0d145f41f"), looks := true }, kinds := [], alts := [], laidByText := true, laidKinds := [.data, .data, .widerDeep, .widerDeep, .data, .data, .data, .data, .data, .sentinel, .sentinel, .pinned, .pinned], laidTests := true, laidLooks := .later }
def ParseFirstCardSaid : Prop := Claim7.holds Tryd.pinned (.plain (OpenSpec.ofChange parseFirstSpec)) parseFirstCard

/-- THE TIED CARD OF 'burnishlaw17.ParseKinds'. -/
def parseKindsCard : Claim7 := { stood := { row := parseKindsRow, standIns := [], harness := (true, "d28ac0c0da236ae3651850e99b51d7c5bf0fab37265d67c52c538af0d145f41f"), looks := true }, kinds := [], alts := [], laidByText := true, laidKinds := [.data, .data, .widerDeep, .widerDeep, .data, .data, .data, .data, .data, .sentinel, .sentinel, .pinned, .pinned], laidTests := true, laidLooks := .later }
def ParseKindsCardSaid : Prop := Claim7.holds Tryd.pinned (.plain (OpenSpec.ofChange parseKindsSpec)) parseKindsCard

/-- THE SECOND FORM's CARD OF 'burnishlaw17.ParseFirst'. -/
def parseFirstUptoCard : Claim7 := { stood := { row := parseFirstUptoRow, standIns := [], harness := (true, "d28ac0c0da236ae3651850e99b51d7c5bf0fab37265d67c52c538af0d145f41f"), looks := true }, kinds := [], alts := [], laidByText := true, laidKinds := [.data, .data, .widerDeep, .widerDeep, .data, .data, .data, .data, .data, .sentinel, .sentinel, .pinned, .pinned], laidTests := true, laidLooks := .later }
def ParseFirstUptoCardSaid : Prop := Claim7.holds Tryd.pinned (.plain (OpenSpec.upto parseFirstSpec)) parseFirstUptoCard

/-- THE SECOND FORM's CARD OF 'burnishlaw17.ParseKinds'. -/
def parseKindsUptoCard : Claim7 := { stood := { row := parseKindsUptoRow, standIns := [], harness := (true, "d28ac0c0da236ae3651850e99b51d7c5bf0fab37265d67c52c538af0d145f41f"), looks := true }, kinds := [], alts := [], laidByText := true, laidKinds := [.data, .data, .widerDeep, .widerDeep, .data, .data, .data, .data, .data, .sentinel, .sentinel, .pinned, .pinned], laidTests := true, laidLooks := .later }
def ParseKindsUptoCardSaid : Prop := Claim7.holds Tryd.pinned (.plain (OpenSpec.upto parseKindsSpec)) parseKindsUptoCard
end Rows
end Go.Proofs.YtgblgolkajdfbaaDoor
