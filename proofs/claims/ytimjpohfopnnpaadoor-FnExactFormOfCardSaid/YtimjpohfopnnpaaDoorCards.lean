/-
  DERIVED. GIVEN WITH THE SEED: THE CARDS: each row of YtimjpohfopnnpaaDoorRows.lean that lists a variable, with what it lists TIED to the program's text (the seventh form; the later family's looks); each row that meets fmt, with fmt's text TOLD by the authors' own Lean function (tested against real Go, not proved from fmt's source: count such statements apart). THE CARD IS WHAT COUNTS. Prove the row's statement (the work); the ties are given (YtimjpohfopnnpaaDoorTie.lean); close each card by the builder's one call (the guide's Derived/Test/ToyasCard.lean, 'card_holds'). Laid BY PROGRAM, IN A SANDBOX (cutbox-door.mjs). By AI agents, Wed Nov 11 2026. No macro, syntax, notation, axiom, sorry.
-/
import Derived.Test.YtimjpohfopnnpaaDoorRows
import GoSem.ClaimSeven
namespace Go.Proofs.YtimjpohfopnnpaaDoor
namespace Rows

/-- THE TIED CARD OF 'laws.FnExactFormName'. -/
def fnExactFormNameCard : Claim7 := { stood := { row := fnExactFormNameRow, standIns := [], harness := (true, "87f5b355f7209f1b3ed2645bdd4a72ff90ba7bfa0d6fa689d6dd61e40570bbc9"), looks := false }, kinds := [], alts := [], laidByText := true, laidKinds := [.data, .pinned], laidTests := true, laidLooks := .later }
def FnExactFormNameCardSaid : Prop := Claim7.holds Tryd.pinned (.plain (OpenSpec.ofChange fnExactFormNameSpec)) fnExactFormNameCard

/-- THE TIED CARD OF 'laws.FnExactFormOf'. -/
def fnExactFormOfCard : Claim7 := { stood := { row := fnExactFormOfRow, standIns := [], harness := (true, "87f5b355f7209f1b3ed2645bdd4a72ff90ba7bfa0d6fa689d6dd61e40570bbc9"), looks := false }, kinds := [], alts := [], laidByText := true, laidKinds := [.data, .pinned], laidTests := true, laidLooks := .later }
def FnExactFormOfCardSaid : Prop := Claim7.holds Tryd.pinned (.plain (OpenSpec.ofChange fnExactFormOfSpec)) fnExactFormOfCard

/-- THE SECOND FORM's CARD OF 'laws.FnExactFormName'. -/
def fnExactFormNameUptoCard : Claim7 := { stood := { row := fnExactFormNameUptoRow, standIns := [], harness := (true, "87f5b355f7209f1b3ed2645bdd4a72ff90ba7bfa0d6fa689d6dd61e40570bbc9"), looks := false }, kinds := [], alts := [], laidByText := true, laidKinds := [.data, .pinned], laidTests := true, laidLooks := .later }
def FnExactFormNameUptoCardSaid : Prop := Claim7.holds Tryd.pinned (.plain (OpenSpec.upto fnExactFormNameSpec)) fnExactFormNameUptoCard

/-- THE SECOND FORM's CARD OF 'laws.FnExactFormOf'. -/
def fnExactFormOfUptoCard : Claim7 := { stood := { row := fnExactFormOfUptoRow, standIns := [], harness := (true, "87f5b355f7209f1b3ed2645bdd4a72ff90ba7bfa0d6fa689d6dd61e40570bbc9"), looks := false }, kinds := [], alts := [], laidByText := true, laidKinds := [.data, .pinned], laidTests := true, laidLooks := .later }
def FnExactFormOfUptoCardSaid : Prop := Claim7.holds Tryd.pinned (.plain (OpenSpec.upto fnExactFormOfSpec)) fnExactFormOfUptoCard
end Rows
end Go.Proofs.YtimjpohfopnnpaaDoor
