/-
  DERIVED. GIVEN WITH THE SEED: THE CARDS: each row of YtdggnhnkpejciaaGreatDoorRows.lean that lists a variable, with what it lists TIED to the program's text (the seventh form; the later family's looks); each row that meets fmt, with fmt's text TOLD by the authors' own Lean function (tested against real Go, not proved from fmt's source: count such statements apart). THE CARD IS WHAT COUNTS. Prove the row's statement (the work); the ties are given (YtdggnhnkpejciaaGreatDoorTie.lean); close each card by the builder's one call (the guide's Derived/Test/ToyasCard.lean, 'card_holds'). Laid BY PROGRAM, IN A SANDBOX (cutbox-door.mjs). By AI agents, Wed Nov 11 2026. No macro, syntax, notation, axiom, sorry.
-/
import Derived.Test.YtdggnhnkpejciaaGreatDoorRows
import GoSem.ClaimSeven
namespace Go.Proofs.YtdggnhnkpejciaaGreatDoor
namespace Rows

/-- THE TIED CARD OF 'laws.FnFrames'. -/
def fnFramesCard : Claim7 := { stood := { row := fnFramesRow, standIns := [], harness := (true, "ce1cdf2c1f82187b4dd0a55e2b4e9988ddb8e012ac27a8803a6443a5d8fb3f0a"), looks := false }, kinds := [], alts := [], laidByText := true, laidKinds := [.data, .pinned], laidTests := true, laidLooks := .later }
def FnFramesCardSaid : Prop := Claim7.holds Tryz.pinned (.plain (OpenSpec.ofChange fnFramesSpec)) fnFramesCard

/-- THE SECOND FORM's CARD OF 'laws.FnFrames'. -/
def fnFramesUptoCard : Claim7 := { stood := { row := fnFramesUptoRow, standIns := [], harness := (true, "ce1cdf2c1f82187b4dd0a55e2b4e9988ddb8e012ac27a8803a6443a5d8fb3f0a"), looks := false }, kinds := [], alts := [], laidByText := true, laidKinds := [.data, .pinned], laidTests := true, laidLooks := .later }
def FnFramesUptoCardSaid : Prop := Claim7.holds Tryz.pinned (.plain (OpenSpec.upto fnFramesSpec)) fnFramesUptoCard
end Rows
end Go.Proofs.YtdggnhnkpejciaaGreatDoor
