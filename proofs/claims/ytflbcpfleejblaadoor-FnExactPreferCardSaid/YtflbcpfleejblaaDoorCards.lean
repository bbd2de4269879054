/-
  DERIVED. GIVEN WITH THE SEED: THE CARDS: each row of YtflbcpfleejblaaDoorRows.lean that lists a variable, with what it lists TIED to the program's text (the seventh form; the later family's looks); each row that meets fmt, with fmt's text TOLD by the authors' own Lean function (tested against real Go, not proved from fmt's source: count such statements apart). THE CARD IS WHAT COUNTS. Prove the row's statement (the work); the ties are given (YtflbcpfleejblaaDoorTie.lean); close each card by the builder's one call (the guide's Derived/Test/ToyasCard.lean, 'card_holds'). Laid BY PROGRAM, IN A SANDBOX (cutbox-door.mjs). By AI agents, Wed Nov 11 2026. No macro, syntax, notation, axiom, sorry.
-/
import Derived.Test.YtflbcpfleejblaaDoorRows
import GoSem.ClaimSeven
namespace Go.Proofs.YtflbcpfleejblaaDoor
namespace Rows

/-- THE TIED CARD OF 'laws.FnExactShapeOk'. -/
def fnExactShapeOkCard : Claim7 := { stood := { row := fnExactShapeOkRow, standIns := [], harness := (true, "87333e123f861f9a0a497b652268abc1f7ca3accc3a5d3ca58cea4a24e34644a"), looks := true }, kinds := [], alts := [], laidByText := true, laidKinds := [.data, .pinned], laidTests := true, laidLooks := .later }
def FnExactShapeOkCardSaid : Prop := Claim7.holds Tryd.pinned (.plain (OpenSpec.ofChange fnExactShapeOkSpec)) fnExactShapeOkCard

/-- THE TIED CARD OF 'laws.FnExactPrefer'. -/
def fnExactPreferCard : Claim7 := { stood := { row := fnExactPreferRow, standIns := [], harness := (true, "87333e123f861f9a0a497b652268abc1f7ca3accc3a5d3ca58cea4a24e34644a"), looks := true }, kinds := [], alts := [], laidByText := true, laidKinds := [.data, .pinned], laidTests := true, laidLooks := .later }
def FnExactPreferCardSaid : Prop := Claim7.holds Tryd.pinned (.plain (OpenSpec.ofChange fnExactPreferSpec)) fnExactPreferCard

/-- THE TIED CARD OF 'laws.FnExactJoin'. -/
def fnExactJoinCard : Claim7 := { stood := { row := fnExactJoinRow, standIns := [], harness := (true, "87333e123f861f9a0a497b652268abc1f7ca3accc3a5d3ca58cea4a24e34644a"), looks := true }, kinds := [], alts := [], laidByText := true, laidKinds := [.data, .pinned], laidTests := true, laidLooks := .later }
def FnExactJoinCardSaid : Prop := Claim7.holds Tryd.pinned (.plain (OpenSpec.ofChange fnExactJoinSpec)) fnExactJoinCard

/-- THE TIED CARD OF 'laws.FnExactPlain'. -/
def fnExactPlainCard : Claim7 := { stood := { row := fnExactPlainRow, standIns := [], harness := (true, "87333e123f861f9a0a497b652268abc1f7ca3accc3a5d3ca58cea4a24e34644a"), looks := true }, kinds := [], alts := [], laidByText := true, laidKinds := [.data, .data, .data, .data, .pinned], laidTests := true, laidLooks := .later }
def FnExactPlainCardSaid : Prop := Claim7.holds Tryd.pinned (.plain (OpenSpec.ofChange fnExactPlainSpec)) fnExactPlainCard

/-- THE TIED CARD OF 'laws.FnExactAt'. -/
def fnExactAtCard : Claim7 := { stood := { row := fnExactAtRow, standIns := [], harness := (true, "87333e123f861f9a0a497b652268abc1f7ca3accc3a5d3ca58cea4a24e34644a"), looks := true }, kinds := [], alts := [], laidByText := true, laidKinds := [.data, .data, .data, .data, .sentinel, .sentinel, .pinned], laidTests := true, laidLooks := .later }
def FnExactAtCardSaid : Prop := Claim7.holds Tryd.pinned (.plain (OpenSpec.ofChange fnExactAtSpec)) fnExactAtCard

/-- THE TIED CARD OF 'laws.FnExactShapeText'. -/
def fnExactShapeTextCard : Claim7 := { stood := { row := fnExactShapeTextRow, standIns := [], harness := (true, "87333e123f861f9a0a497b652268abc1f7ca3accc3a5d3ca58cea4a24e34644a"), looks := true }, kinds := [], alts := [], laidByText := true, laidKinds := [.data, .data, .data, .data, .pinned], laidTests := true, laidLooks := .later }
def FnExactShapeTextCardSaid : Prop := Claim7.holds Tryd.pinned (.plain (OpenSpec.ofChange fnExactShapeTextSpec)) fnExactShapeTextCard

/-- THE SECOND FORM's CARD OF 'laws.FnExactShapeOk'. -/
def fnExactShapeOkUptoCard : Claim7 := { stood := { row := fnExactShapeOkUptoRow, standIns := [], harness := (true, "87333e123f861f9a0a497b652268abc1f7ca3accc3a5d3ca58cea4a24e34644a"), looks := true }, kinds := [], alts := [], laidByText := true, laidKinds := [.data, .pinned], laidTests := true, laidLooks := .later }
def FnExactShapeOkUptoCardSaid : Prop := Claim7.holds Tryd.pinned (.plain (OpenSpec.upto fnExactShapeOkSpec)) fnExactShapeOkUptoCard

/-- THE SECOND FORM's CARD OF 'laws.FnExactPrefer'. -/
def fnExactPreferUptoCard : Claim7 := { stood := { row := fnExactPreferUptoRow, standIns := [], harness := (true, "87333e123f861f9a0a497b652268abc1f7ca3accc3a5d3ca58cea4a24e34644a"), looks := true }, kinds := [], alts := [], laidByText := true, laidKinds := [.data, .pinned], laidTests := true, laidLooks := .later }
def FnExactPreferUptoCardSaid : Prop := Claim7.holds Tryd.pinned (.plain (OpenSpec.upto fnExactPreferSpec)) fnExactPreferUptoCard

/-- THE SECOND FORM's CARD OF 'laws.FnExactJoin'. -/
def fnExactJoinUptoCard : Claim7 := { stood := { row := fnExactJoinUptoRow, standIns := [], harness := (true, "87333e123f861f9a0a497b652268abc1f7ca3accc3a5d3ca58cea4a24e34644a"), looks := true }, kinds := [], alts := [], laidByText := true, laidKinds := [.data, .pinned], laidTests := true, laidLooks := .later }
def FnExactJoinUptoCardSaid : Prop := Claim7.holds Tryd.pinned (.plain (OpenSpec.upto fnExactJoinSpec)) fnExactJoinUptoCard

/-- THE SECOND FORM's CARD OF 'laws.FnExactPlain'. -/
def fnExactPlainUptoCard : Claim7 := { stood := { row := fnExactPlainUptoRow, standIns := [], harness := (true, "87333e123f861f9a0a497b652268abc1f7ca3accc3a5d3ca58cea4a24e34644a"), looks := true }, kinds := [], alts := [], laidByText := true, laidKinds := [.data, .data, .data, .data, .pinned], laidTests := true, laidLooks := .later }
def FnExactPlainUptoCardSaid : Prop := Claim7.holds Tryd.pinned (.plain (OpenSpec.upto fnExactPlainSpec)) fnExactPlainUptoCard

/-- THE SECOND FORM's CARD OF 'laws.FnExactAt'. -/
def fnExactAtUptoCard : Claim7 := { stood := { row := fnExactAtUptoRow, standIns := [], harness := (true, "87333e123f861f9a0a497b652268abc1f7ca3accc3a5d3ca58cea4a24e34644a"), looks := true }, kinds := [], alts := [], laidByText := true, laidKinds := [.data, .data, .data, .data, .sentinel, .sentinel, .pinned], laidTests := true, laidLooks := .later }
def FnExactAtUptoCardSaid : Prop := Claim7.holds Tryd.pinned (.plain (OpenSpec.upto fnExactAtSpec)) fnExactAtUptoCard

/-- THE SECOND FORM's CARD OF 'laws.FnExactShapeText'. -/
def fnExactShapeTextUptoCard : Claim7 := { stood := { row := fnExactShapeTextUptoRow, standIns := [], harness := (true, "87333e123f861f9a0a497b652268abc1f7ca3accc3a5d3ca58cea4a24e34644a"), looks := true }, kinds := [], alts := [], laidByText := true, laidKinds := [.data, .data, .data, .data, .pinned], laidTests := true, laidLooks := .later }
def FnExactShapeTextUptoCardSaid : Prop := Claim7.holds Tryd.pinned (.plain (OpenSpec.upto fnExactShapeTextSpec)) fnExactShapeTextUptoCard
end Rows
end Go.Proofs.YtflbcpfleejblaaDoor
