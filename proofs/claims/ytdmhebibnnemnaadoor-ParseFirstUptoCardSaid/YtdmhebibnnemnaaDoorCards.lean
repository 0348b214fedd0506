/-
  DERIVED. GIVEN WITH THE SEED: THE CARDS: each row of YtdmhebibnnemnaaDoorRows.lean that lists a variable, with what it lists TIED to the program's text (the seventh form; the later family's looks); each row that meets fmt, with fmt's text TOLD by the authors' own Lean function (tested against real Go, not proved from fmt's source: count such statements apart). THE CARD IS WHAT COUNTS. Prove the row's statement (the work); the ties are given (YtdmhebibnnemnaaDoorTie.lean); close each card by the builder's one call (the guide's Derived/Test/ToyasCard.lean, 'card_holds'). Laid BY PROGRAM, IN A SANDBOX (cutbox-door.mjs). By AI agents, Wed Nov 11 2026. No macro, syntax, notation, axiom, sorry.
-/
import Derived.Test.YtdmhebibnnemnaaDoorRows
import GoSem.ClaimSeven
namespace Go.Proofs.YtdmhebibnnemnaaDoor
namespace Rows

/-- THE TIED CARD OF 'burnishlaw17.ParseFirst'. -/
def parseFirstCard : Claim7 := { stood := { row := parseFirstRow, standIns := [], harness := (true, "a8a0992c0455f0233036194e7a57d93d7ea8490a7a57cdfec86abdef5c35147c"), looks := true }, kinds := [], alts := [], laidByText := true, laidKinds := [.data, .data, .widerDeep, .widerDeep, .data, .data, .data, .data, .data, .sentinel, .sentinel, .pinned, .pinned], laidTests := true, laidLooks := .later }
def ParseFirstCardSaid : Prop := Claim7.holds Tryd.pinned (.plain (OpenSpec.ofChange parseFirstSpec)) parseFirstCard

/-- THE SECOND FORM's CARD OF 'burnishlaw17.ParseFirst'. -/
def parseFirstUptoCard : Claim7 := { stood := { row := parseFirstUptoRow, standIns := [], harness := (true, "a8a0992c0455f0233036194e7a57d93d7ea8490a7a57cdfec86abdef5c35147c"), looks := true }, kinds := [], alts := [], laidByText := true, laidKinds := [.data, .data, .widerDeep, .widerDeep, .data, .data, .data, .data, .data, .sentinel, .sentinel, .pinned, .pinned], laidTests := true, laidLooks := .later }
def ParseFirstUptoCardSaid : Prop := Claim7.holds Tryd.pinned (.plain (OpenSpec.upto parseFirstSpec)) parseFirstUptoCard
end Rows
end Go.Proofs.YtdmhebibnnemnaaDoor
