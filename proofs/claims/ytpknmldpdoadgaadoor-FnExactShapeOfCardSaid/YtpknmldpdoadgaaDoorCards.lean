/-
  DERIVED. GIVEN WITH THE SEED: THE CARDS: each row of YtpknmldpdoadgaaDoorRows.lean that lists a variable, with what it lists TIED to the program's text (the seventh form; the later family's looks); each row that meets fmt, with fmt's text TOLD by the authors' own Lean function (tested against real Go, not proved from fmt's source: count such statements apart). THE CARD IS WHAT COUNTS. Prove the row's statement (the work); the ties are given (YtpknmldpdoadgaaDoorTie.lean); close each card by the builder's one call (the guide's Derived/Test/ToyasCard.lean, 'card_holds'). Laid BY PROGRAM, IN A SANDBOX (cutbox-door.mjs). By AI agents, Wed Nov 11 2026. No macro, syntax, notation, axiom, sorry.
-/
import Derived.Test.YtpknmldpdoadgaaDoorRows
import GoSem.ClaimSeven
namespace Go.Proofs.YtpknmldpdoadgaaDoor
namespace Rows

/-- THE TIED CARD OF 'laws.FnExactJoin'. -/
def fnExactJoinCard : Claim7 := { stood := { row := fnExactJoinRow, standIns := [], harness := (true, "7c6bbbe118ce9afbb309a84eea745d51c5ccbd6eb5e5997cf3bf116c8332f933"), looks := false }, kinds := [], alts := [], laidByText := true, laidKinds := [.data, .pinned], laidTests := true, laidLooks := .later }
def FnExactJoinCardSaid : Prop := Claim7.holds Tryd.pinned (.plain (OpenSpec.ofChange fnExactJoinSpec)) fnExactJoinCard

/-- THE TIED CARD OF 'laws.FnExactShapeOf'. -/
def fnExactShapeOfCard : Claim7 := { stood := { row := fnExactShapeOfRow, standIns := [], harness := (true, "7c6bbbe118ce9afbb309a84eea745d51c5ccbd6eb5e5997cf3bf116c8332f933"), looks := false }, kinds := [], alts := [], laidByText := true, laidKinds := [.data, .pinned], laidTests := true, laidLooks := .later }
def FnExactShapeOfCardSaid : Prop := Claim7.holds Tryd.pinned (.plain (OpenSpec.ofChange fnExactShapeOfSpec)) fnExactShapeOfCard

/-- THE SECOND FORM's CARD OF 'laws.FnExactJoin'. -/
def fnExactJoinUptoCard : Claim7 := { stood := { row := fnExactJoinUptoRow, standIns := [], harness := (true, "7c6bbbe118ce9afbb309a84eea745d51c5ccbd6eb5e5997cf3bf116c8332f933"), looks := false }, kinds := [], alts := [], laidByText := true, laidKinds := [.data, .pinned], laidTests := true, laidLooks := .later }
def FnExactJoinUptoCardSaid : Prop := Claim7.holds Tryd.pinned (.plain (OpenSpec.upto fnExactJoinSpec)) fnExactJoinUptoCard

/-- THE SECOND FORM's CARD OF 'laws.FnExactShapeOf'. -/
def fnExactShapeOfUptoCard : Claim7 := { stood := { row := fnExactShapeOfUptoRow, standIns := [], harness := (true, "7c6bbbe118ce9afbb309a84eea745d51c5ccbd6eb5e5997cf3bf116c8332f933"), looks := false }, kinds := [], alts := [], laidByText := true, laidKinds := [.data, .pinned], laidTests := true, laidLooks := .later }
def FnExactShapeOfUptoCardSaid : Prop := Claim7.holds Tryd.pinned (.plain (OpenSpec.upto fnExactShapeOfSpec)) fnExactShapeOfUptoCard
end Rows
end Go.Proofs.YtpknmldpdoadgaaDoor
