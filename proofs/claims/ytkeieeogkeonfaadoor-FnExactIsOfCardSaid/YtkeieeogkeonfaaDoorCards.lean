/-
  DERIVED. GIVEN WITH THE SEED: THE CARDS: each row of YtkeieeogkeonfaaDoorRows.lean that lists a variable, with what it lists TIED to the program's text (the seventh form; the later family's looks); each row that meets fmt, with fmt's text TOLD by the authors' own Lean function (tested against real Go, not proved from fmt's source: count such statements apart). THE CARD IS WHAT COUNTS. Prove the row's statement (the work); the ties are given (YtkeieeogkeonfaaDoorTie.lean); close each card by the builder's one call (the guide's Derived/Test/ToyasCard.lean, 'card_holds'). Laid BY PROGRAM, IN A SANDBOX (cutbox-door.mjs). By AI agents, Wed Nov 11 2026. No macro, syntax, notation, axiom, sorry.
-/
import Derived.Test.YtkeieeogkeonfaaDoorRows
import GoSem.ClaimSeven
namespace Go.Proofs.YtkeieeogkeonfaaDoor
namespace Rows

/-- THE TIED CARD OF 'laws.FnExactJoin'. -/
def fnExactJoinCard : Claim7 := { stood := { row := fnExactJoinRow, standIns := [], harness := (true, "5048064501d01013e4c5357d05f96cb8a7985f22657dfc855694e6a938aaeaec"), looks := false }, kinds := [], alts := [], laidByText := true, laidKinds := [.data, .pinned], laidTests := true, laidLooks := .later }
def FnExactJoinCardSaid : Prop := Claim7.holds Tryd.pinned (.plain (OpenSpec.ofChange fnExactJoinSpec)) fnExactJoinCard

/-- THE TIED CARD OF 'laws.FnExactPlain'. -/
def fnExactPlainCard : Claim7 := { stood := { row := fnExactPlainRow, standIns := [], harness := (true, "5048064501d01013e4c5357d05f96cb8a7985f22657dfc855694e6a938aaeaec"), looks := false }, kinds := [], alts := [], laidByText := true, laidKinds := [.data, .data, .data, .data, .pinned], laidTests := true, laidLooks := .later }
def FnExactPlainCardSaid : Prop := Claim7.holds Tryd.pinned (.plain (OpenSpec.ofChange fnExactPlainSpec)) fnExactPlainCard

/-- THE TIED CARD OF 'laws.FnExactShapeText'. -/
def fnExactShapeTextCard : Claim7 := { stood := { row := fnExactShapeTextRow, standIns := [], harness := (true, "5048064501d01013e4c5357d05f96cb8a7985f22657dfc855694e6a938aaeaec"), looks := false }, kinds := [], alts := [], laidByText := true, laidKinds := [.data, .data, .data, .data, .pinned], laidTests := true, laidLooks := .later }
def FnExactShapeTextCardSaid : Prop := Claim7.holds Tryd.pinned (.plain (OpenSpec.ofChange fnExactShapeTextSpec)) fnExactShapeTextCard

/-- THE TIED CARD OF 'laws.FnExactShapeOf'. -/
def fnExactShapeOfCard : Claim7 := { stood := { row := fnExactShapeOfRow, standIns := [], harness := (true, "5048064501d01013e4c5357d05f96cb8a7985f22657dfc855694e6a938aaeaec"), looks := false }, kinds := [], alts := [], laidByText := true, laidKinds := [.data, .pinned], laidTests := true, laidLooks := .later }
def FnExactShapeOfCardSaid : Prop := Claim7.holds Tryd.pinned (.plain (OpenSpec.ofChange fnExactShapeOfSpec)) fnExactShapeOfCard

/-- THE TIED CARD OF 'laws.FnExactIsOf'. -/
def fnExactIsOfCard : Claim7 := { stood := { row := fnExactIsOfRow, standIns := [], harness := (true, "5048064501d01013e4c5357d05f96cb8a7985f22657dfc855694e6a938aaeaec"), looks := false }, kinds := [], alts := [], laidByText := true, laidKinds := [.data, .data, .data, .data, .pinned], laidTests := true, laidLooks := .later }
def FnExactIsOfCardSaid : Prop := Claim7.holds Tryd.pinned (.plain (OpenSpec.ofChange fnExactIsOfSpec)) fnExactIsOfCard

/-- THE SECOND FORM's CARD OF 'laws.FnExactJoin'. -/
def fnExactJoinUptoCard : Claim7 := { stood := { row := fnExactJoinUptoRow, standIns := [], harness := (true, "5048064501d01013e4c5357d05f96cb8a7985f22657dfc855694e6a938aaeaec"), looks := false }, kinds := [], alts := [], laidByText := true, laidKinds := [.data, .pinned], laidTests := true, laidLooks := .later }
def FnExactJoinUptoCardSaid : Prop := Claim7.holds Tryd.pinned (.plain (OpenSpec.upto fnExactJoinSpec)) fnExactJoinUptoCard

/-- THE SECOND FORM's CARD OF 'laws.FnExactPlain'. -/
def fnExactPlainUptoCard : Claim7 := { stood := { row := fnExactPlainUptoRow, standIns := [], harness := (true, "5048064501d01013e4c5357d05f96cb8a7985f22657dfc855694e6a938aaeaec"), looks := false }, kinds := [], alts := [], laidByText := true, laidKinds := [.data, .data, .data, .data, .pinned], laidTests := true, laidLooks := .later }
def FnExactPlainUptoCardSaid : Prop := Claim7.holds Tryd.pinned (.plain (OpenSpec.upto fnExactPlainSpec)) fnExactPlainUptoCard

/-- THE SECOND FORM's CARD OF 'laws.FnExactShapeText'. -/
def fnExactShapeTextUptoCard : Claim7 := { stood := { row := fnExactShapeTextUptoRow, standIns := [], harness := (true, "5048064501d01013e4c5357d05f96cb8a7985f22657dfc855694e6a938aaeaec"), looks := false }, kinds := [], alts := [], laidByText := true, laidKinds := [.data, .data, .data, .data, .pinned], laidTests := true, laidLooks := .later }
def FnExactShapeTextUptoCardSaid : Prop := Claim7.holds Tryd.pinned (.plain (OpenSpec.upto fnExactShapeTextSpec)) fnExactShapeTextUptoCard

/-- THE SECOND FORM's CARD OF 'laws.FnExactShapeOf'. -/
def fnExactShapeOfUptoCard : Claim7 := { stood := { row := fnExactShapeOfUptoRow, standIns := [], harness := (true, "5048064501d01013e4c5357d05f96cb8a7985f22657dfc855694e6a938aaeaec"), looks := false }, kinds := [], alts := [], laidByText := true, laidKinds := [.data, .pinned], laidTests := true, laidLooks := .later }
def FnExactShapeOfUptoCardSaid : Prop := Claim7.holds Tryd.pinned (.plain (OpenSpec.upto fnExactShapeOfSpec)) fnExactShapeOfUptoCard

/-- THE SECOND FORM's CARD OF 'laws.FnExactIsOf'. -/
def fnExactIsOfUptoCard : Claim7 := { stood := { row := fnExactIsOfUptoRow, standIns := [], harness := (true, "5048064501d01013e4c5357d05f96cb8a7985f22657dfc855694e6a938aaeaec"), looks := false }, kinds := [], alts := [], laidByText := true, laidKinds := [.data, .data, .data, .data, .pinned], laidTests := true, laidLooks := .later }
def FnExactIsOfUptoCardSaid : Prop := Claim7.holds Tryd.pinned (.plain (OpenSpec.upto fnExactIsOfSpec)) fnExactIsOfUptoCard
end Rows
end Go.Proofs.YtkeieeogkeonfaaDoor
