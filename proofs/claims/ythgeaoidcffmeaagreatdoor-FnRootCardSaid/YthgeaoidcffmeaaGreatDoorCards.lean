/-
  DERIVED. GIVEN WITH THE SEED: THE CARDS: each row of YthgeaoidcffmeaaGreatDoorRows.lean that lists a variable, with what it lists TIED to the program's text (the seventh form; the later family's looks); each row that meets fmt, with fmt's text TOLD by the authors' own Lean function (tested against real Go, not proved from fmt's source: count such statements apart). THE CARD IS WHAT COUNTS. Prove the row's statement (the work); the ties are given (YthgeaoidcffmeaaGreatDoorTie.lean); close each card by the builder's one call (the guide's Derived/Test/ToyasCard.lean, 'card_holds'). Laid BY PROGRAM, IN A SANDBOX (cutbox-door.mjs). By AI agents, Wed Nov 11 2026. No macro, syntax, notation, axiom, sorry.
-/
import Derived.Test.YthgeaoidcffmeaaGreatDoorRows
import GoSem.ClaimSeven
namespace Go.Proofs.YthgeaoidcffmeaaGreatDoor
namespace Rows

/-- THE TIED CARD OF 'laws.FnRoot'. -/
def fnRootCard : Claim7 := { stood := { row := fnRootRow, standIns := [], harness := (true, "3d6a33b79ba777353f6e5874685b60bf0be1ee5525d0013594a946809d53db60"), looks := false }, kinds := [], alts := [], laidByText := true, laidKinds := [.data, .pinned], laidTests := true, laidLooks := .later }
def FnRootCardSaid : Prop := Claim7.holds Tryz.pinned (.plain (OpenSpec.ofChange fnRootSpec)) fnRootCard

/-- THE SECOND FORM's CARD OF 'laws.FnRoot'. -/
def fnRootUptoCard : Claim7 := { stood := { row := fnRootUptoRow, standIns := [], harness := (true, "3d6a33b79ba777353f6e5874685b60bf0be1ee5525d0013594a946809d53db60"), looks := false }, kinds := [], alts := [], laidByText := true, laidKinds := [.data, .pinned], laidTests := true, laidLooks := .later }
def FnRootUptoCardSaid : Prop := Claim7.holds Tryz.pinned (.plain (OpenSpec.upto fnRootSpec)) fnRootUptoCard
end Rows
end Go.Proofs.YthgeaoidcffmeaaGreatDoor
