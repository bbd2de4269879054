/-
  DERIVED. GIVEN WITH THE SEED: THE CARDS: each row of YtkeieeogkeonfaaGreatDoorRows.lean that lists a variable, with what it lists TIED to the program's text (the seventh form; the later family's looks); each row that meets fmt, with fmt's text TOLD by the authors' own Lean function (tested against real Go, not proved from fmt's source: count such statements apart). THE CARD IS WHAT COUNTS. Prove the row's statement (the work); the ties are given (YtkeieeogkeonfaaGreatDoorTie.lean); close each card by the builder's one call (the guide's Derived/Test/ToyasCard.lean, 'card_holds'). Laid BY PROGRAM, IN A SANDBOX (cutbox-door.mjs). By AI agents, Wed Nov 11 2026. No macro, syntax, notation, axiom, sorry.
-/
import Derived.Test.YtkeieeogkeonfaaGreatDoorRows
import GoSem.ClaimSeven
namespace Go.Proofs.YtkeieeogkeonfaaGreatDoor
namespace Rows

/-- THE TIED CARD OF 'laws.FnExactWrong'. -/
def fnExactWrongCard : Claim7 := { stood := { row := fnExactWrongRow, standIns := [], harness := (true, "ae098a4f2b72adbbca3c6d0a18ec19b082b105f6cbe0c4087e3c34e0aa94b9b2"), looks := false }, kinds := [], alts := [], laidByText := true, laidKinds := [.data, .data, .data, .data, .pinned], laidTests := true, laidLooks := .later }
def FnExactWrongCardSaid : Prop := Claim7.holds Tryz.pinned (.plain (OpenSpec.ofChange fnExactWrongSpec)) fnExactWrongCard

/-- THE SECOND FORM's CARD OF 'laws.FnExactWrong'. -/
def fnExactWrongUptoCard : Claim7 := { stood := { row := fnExactWrongUptoRow, standIns := [], harness := (true, "ae098a4f2b72adbbca3c6d0a18ec19b082b105f6cbe0c4087e3c34e0aa94b9b2"), looks := false }, kinds := [], alts := [], laidByText := true, laidKinds := [.data, .data, .data, .data, .pinned], laidTests := true, laidLooks := .later }
def FnExactWrongUptoCardSaid : Prop := Claim7.holds Tryz.pinned (.plain (OpenSpec.upto fnExactWrongSpec)) fnExactWrongUptoCard
end Rows
end Go.Proofs.YtkeieeogkeonfaaGreatDoor
