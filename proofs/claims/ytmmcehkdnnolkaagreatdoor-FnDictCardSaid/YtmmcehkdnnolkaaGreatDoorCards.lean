/-
  DERIVED. GIVEN WITH THE SEED: THE CARDS: each row of YtmmcehkdnnolkaaGreatDoorRows.lean that lists a variable, with what it lists TIED to the program's text (the seventh form; the later family's looks); each row that meets fmt, with fmt's text TOLD by the authors' own Lean function (tested against real Go, not proved from fmt's source: count such statements apart). THE CARD IS WHAT COUNTS. Prove the row's statement (the work); the ties are given (YtmmcehkdnnolkaaGreatDoorTie.lean); close each card by the builder's one call (the guide's Derived/Test/ToyasCard.lean, 'card_holds'). Laid BY PROGRAM, IN A SANDBOX (cutbox-door.mjs). By AI agents, Wed Nov 11 2026. No macro, syntax, notation, axiom, sorry.
-/
import Derived.Test.YtmmcehkdnnolkaaGreatDoorRows
import GoSem.ClaimSeven
namespace Go.Proofs.YtmmcehkdnnolkaaGreatDoor
namespace Rows

/-- THE TIED CARD OF 'laws.FnDict'. -/
def fnDictCard : Claim7 := { stood := { row := fnDictRow, standIns := [], harness := (true, "5dafb2fbaea3ec144f05f0a6fd5b1387a10a20aca82792b6da422f9a5431ff24"), looks := false }, kinds := [], alts := [], laidByText := true, laidKinds := [.data, .pinned], laidTests := true, laidLooks := .later }
def FnDictCardSaid : Prop := Claim7.holds Tryz.pinned (.plain (OpenSpec.ofChange fnDictSpec)) fnDictCard

/-- THE SECOND FORM's CARD OF 'laws.FnDict'. -/
def fnDictUptoCard : Claim7 := { stood := { row := fnDictUptoRow, standIns := [], harness := (true, "5dafb2fbaea3ec144f05f0a6fd5b1387a10a20aca82792b6da422f9a5431ff24"), looks := false }, kinds := [], alts := [], laidByText := true, laidKinds := [.data, .pinned], laidTests := true, laidLooks := .later }
def FnDictUptoCardSaid : Prop := Claim7.holds Tryz.pinned (.plain (OpenSpec.upto fnDictSpec)) fnDictUptoCard
end Rows
end Go.Proofs.YtmmcehkdnnolkaaGreatDoor
