/-
  DERIVED. GIVEN WITH THE SEED: THE CARDS: each row of YtanlnhkagepniaaGreatDoorRows.lean that lists a variable, with what it lists TIED to the program's text (the seventh form; the later family's looks); each row that meets fmt, with fmt's text TOLD by the authors' own Lean function (tested against real Go, not proved from fmt's source: count such statements apart). THE CARD IS WHAT COUNTS. Prove the row's statement (the work); the ties are given (YtanlnhkagepniaaGreatDoorTie.lean); close each card by the builder's one call (the guide's Derived/Test/ToyasCard.lean, 'card_holds'). Laid BY PROGRAM, IN A SANDBOX (cutbox-door.mjs). By AI agents, Wed Nov 11 2026. No macro, syntax, notation, axiom, sorry.
-/
import Derived.Test.YtanlnhkagepniaaGreatDoorRows
import GoSem.ClaimSeven
namespace Go.Proofs.YtanlnhkagepniaaGreatDoor
namespace Rows

/-- THE TIED CARD OF 'laws.FnExactGetDict'. -/
def fnExactGetDictCard : Claim7 := { stood := { row := fnExactGetDictRow, standIns := [], harness := (true, "d806f6229a34a88321a6eb1dae26c62d6af6a5188f3a5a715ebe9b4f9bba6328"), looks := true }, kinds := [], alts := [], laidByText := true, laidKinds := [.data, .pinned], laidTests := true, laidLooks := .later }
def FnExactGetDictCardSaid : Prop := Claim7.holds Tryz.pinned (.plain (OpenSpec.ofChange fnExactGetDictSpec)) fnExactGetDictCard

/-- THE TIED CARD OF 'laws.FnExactDo'. -/
def fnExactDoCard : Claim7 := { stood := { row := fnExactDoRow, standIns := [], harness := (true, "d806f6229a34a88321a6eb1dae26c62d6af6a5188f3a5a715ebe9b4f9bba6328"), looks := true }, kinds := [], alts := [], laidByText := true, laidKinds := [.data, .data, .data, .data, .sentinel, .sentinel, .pinned], laidTests := true, laidLooks := .later }
def FnExactDoCardSaid : Prop := Claim7.holds Tryz.pinned (.plain (OpenSpec.ofChange fnExactDoSpec)) fnExactDoCard

/-- THE TIED CARD OF 'laws.FnExactApply'. -/
def fnExactApplyCard : Claim7 := { stood := { row := fnExactApplyRow, standIns := [], harness := (true, "d806f6229a34a88321a6eb1dae26c62d6af6a5188f3a5a715ebe9b4f9bba6328"), looks := true }, kinds := [], alts := [], laidByText := true, laidKinds := [.data, .data, .data, .data, .sentinel, .sentinel, .pinned], laidTests := true, laidLooks := .later }
def FnExactApplyCardSaid : Prop := Claim7.holds Tryz.pinned (.plain (OpenSpec.ofChange fnExactApplySpec)) fnExactApplyCard

/-- THE TIED CARD OF 'laws.FnExactStoreOk'. -/
def fnExactStoreOkCard : Claim7 := { stood := { row := fnExactStoreOkRow, standIns := [], harness := (true, "d806f6229a34a88321a6eb1dae26c62d6af6a5188f3a5a715ebe9b4f9bba6328"), looks := true }, kinds := [], alts := [], laidByText := true, laidKinds := [.data, .data, .data, .data, .sentinel, .sentinel, .pinned], laidTests := true, laidLooks := .later }
def FnExactStoreOkCardSaid : Prop := Claim7.holds Tryz.pinned (.plain (OpenSpec.ofChange fnExactStoreOkSpec)) fnExactStoreOkCard

/-- THE TIED CARD OF 'laws.FnExactSyncStore'. -/
def fnExactSyncStoreCard : Claim7 := { stood := { row := fnExactSyncStoreRow, standIns := [], harness := (true, "d806f6229a34a88321a6eb1dae26c62d6af6a5188f3a5a715ebe9b4f9bba6328"), looks := true }, kinds := [], alts := [], laidByText := true, laidKinds := [.data, .data, .data, .data, .sentinel, .sentinel, .pinned], laidTests := true, laidLooks := .later }
def FnExactSyncStoreCardSaid : Prop := Claim7.holds Tryz.pinned (.plain (OpenSpec.ofChange fnExactSyncStoreSpec)) fnExactSyncStoreCard

/-- THE TIED CARD OF 'laws.FnExactLatest'. -/
def fnExactLatestCard : Claim7 := { stood := { row := fnExactLatestRow, standIns := [], harness := (true, "d806f6229a34a88321a6eb1dae26c62d6af6a5188f3a5a715ebe9b4f9bba6328"), looks := true }, kinds := [], alts := [], laidByText := true, laidKinds := [.data, .data, .data, .data, .sentinel, .sentinel, .pinned], laidTests := true, laidLooks := .later }
def FnExactLatestCardSaid : Prop := Claim7.holds Tryz.pinned (.plain (OpenSpec.ofChange fnExactLatestSpec)) fnExactLatestCard

/-- THE TIED CARD OF 'laws.FnExactRetire'. -/
def fnExactRetireCard : Claim7 := { stood := { row := fnExactRetireRow, standIns := [], harness := (true, "d806f6229a34a88321a6eb1dae26c62d6af6a5188f3a5a715ebe9b4f9bba6328"), looks := true }, kinds := [], alts := [], laidByText := true, laidKinds := [.data, .data, .data, .data, .sentinel, .sentinel, .pinned], laidTests := true, laidLooks := .later }
def FnExactRetireCardSaid : Prop := Claim7.holds Tryz.pinned (.plain (OpenSpec.ofChange fnExactRetireSpec)) fnExactRetireCard

/-- THE TIED CARD OF 'laws.FnExactCrashStore'. -/
def fnExactCrashStoreCard : Claim7 := { stood := { row := fnExactCrashStoreRow, standIns := [], harness := (true, "d806f6229a34a88321a6eb1dae26c62d6af6a5188f3a5a715ebe9b4f9bba6328"), looks := true }, kinds := [], alts := [], laidByText := true, laidKinds := [.data, .data, .data, .data, .sentinel, .sentinel, .pinned], laidTests := true, laidLooks := .later }
def FnExactCrashStoreCardSaid : Prop := Claim7.holds Tryz.pinned (.plain (OpenSpec.ofChange fnExactCrashStoreSpec)) fnExactCrashStoreCard

/-- THE TIED CARD OF 'laws.FnExactLives'. -/
def fnExactLivesCard : Claim7 := { stood := { row := fnExactLivesRow, standIns := [], harness := (true, "d806f6229a34a88321a6eb1dae26c62d6af6a5188f3a5a715ebe9b4f9bba6328"), looks := true }, kinds := [], alts := [], laidByText := true, laidKinds := [.data, .data, .data, .data, .sentinel, .sentinel, .pinned], laidTests := true, laidLooks := .later }
def FnExactLivesCardSaid : Prop := Claim7.holds Tryz.pinned (.plain (OpenSpec.ofChange fnExactLivesSpec)) fnExactLivesCard

/-- THE TIED CARD OF 'laws.FnExactPublish'. -/
def fnExactPublishCard : Claim7 := { stood := { row := fnExactPublishRow, standIns := [], harness := (true, "d806f6229a34a88321a6eb1dae26c62d6af6a5188f3a5a715ebe9b4f9bba6328"), looks := true }, kinds := [], alts := [], laidByText := true, laidKinds := [.data, .data, .data, .data, .sentinel, .sentinel, .pinned], laidTests := true, laidLooks := .later }
def FnExactPublishCardSaid : Prop := Claim7.holds Tryz.pinned (.plain (OpenSpec.ofChange fnExactPublishSpec)) fnExactPublishCard

/-- THE TIED CARD OF 'laws.FnExactFetch'. -/
def fnExactFetchCard : Claim7 := { stood := { row := fnExactFetchRow, standIns := [], harness := (true, "d806f6229a34a88321a6eb1dae26c62d6af6a5188f3a5a715ebe9b4f9bba6328"), looks := true }, kinds := [], alts := [], laidByText := true, laidKinds := [.data, .data, .data, .data, .sentinel, .sentinel, .pinned], laidTests := true, laidLooks := .later }
def FnExactFetchCardSaid : Prop := Claim7.holds Tryz.pinned (.plain (OpenSpec.ofChange fnExactFetchSpec)) fnExactFetchCard

/-- THE SECOND FORM's CARD OF 'laws.FnExactGetDict'. -/
def fnExactGetDictUptoCard : Claim7 := { stood := { row := fnExactGetDictUptoRow, standIns := [], harness := (true, "d806f6229a34a88321a6eb1dae26c62d6af6a5188f3a5a715ebe9b4f9bba6328"), looks := true }, kinds := [], alts := [], laidByText := true, laidKinds := [.data, .pinned], laidTests := true, laidLooks := .later }
def FnExactGetDictUptoCardSaid : Prop := Claim7.holds Tryz.pinned (.plain (OpenSpec.upto fnExactGetDictSpec)) fnExactGetDictUptoCard

/-- THE SECOND FORM's CARD OF 'laws.FnExactDo'. -/
def fnExactDoUptoCard : Claim7 := { stood := { row := fnExactDoUptoRow, standIns := [], harness := (true, "d806f6229a34a88321a6eb1dae26c62d6af6a5188f3a5a715ebe9b4f9bba6328"), looks := true }, kinds := [], alts := [], laidByText := true, laidKinds := [.data, .data, .data, .data, .sentinel, .sentinel, .pinned], laidTests := true, laidLooks := .later }
def FnExactDoUptoCardSaid : Prop := Claim7.holds Tryz.pinned (.plain (OpenSpec.upto fnExactDoSpec)) fnExactDoUptoCard

/-- THE SECOND FORM's CARD OF 'laws.FnExactApply'. -/
def fnExactApplyUptoCard : Claim7 := { stood := { row := fnExactApplyUptoRow, standIns := [], harness := (true, "d806f6229a34a88321a6eb1dae26c62d6af6a5188f3a5a715ebe9b4f9bba6328"), looks := true }, kinds := [], alts := [], laidByText := true, laidKinds := [.data, .data, .data, .data, .sentinel, .sentinel, .pinned], laidTests := true, laidLooks := .later }
def FnExactApplyUptoCardSaid : Prop := Claim7.holds Tryz.pinned (.plain (OpenSpec.upto fnExactApplySpec)) fnExactApplyUptoCard

/-- THE SECOND FORM's CARD OF 'laws.FnExactStoreOk'. -/
def fnExactStoreOkUptoCard : Claim7 := { stood := { row := fnExactStoreOkUptoRow, standIns := [], harness := (true, "d806f6229a34a88321a6eb1dae26c62d6af6a5188f3a5a715ebe9b4f9bba6328"), looks := true }, kinds := [], alts := [], laidByText := true, laidKinds := [.data, .data, .data, .data, .sentinel, .sentinel, .pinned], laidTests := true, laidLooks := .later }
def FnExactStoreOkUptoCardSaid : Prop := Claim7.holds Tryz.pinned (.plain (OpenSpec.upto fnExactStoreOkSpec)) fnExactStoreOkUptoCard

/-- THE SECOND FORM's CARD OF 'laws.FnExactSyncStore'. -/
def fnExactSyncStoreUptoCard : Claim7 := { stood := { row := fnExactSyncStoreUptoRow, standIns := [], harness := (true, "d806f6229a34a88321a6eb1dae26c62d6af6a5188f3a5a715ebe9b4f9bba6328"), looks := true }, kinds := [], alts := [], laidByText := true, laidKinds := [.data, .data, .data, .data, .sentinel, .sentinel, .pinned], laidTests := true, laidLooks := .later }
def FnExactSyncStoreUptoCardSaid : Prop := Claim7.holds Tryz.pinned (.plain (OpenSpec.upto fnExactSyncStoreSpec)) fnExactSyncStoreUptoCard

/-- THE SECOND FORM's CARD OF 'laws.FnExactLatest'. -/
def fnExactLatestUptoCard : Claim7 := { stood := { row := fnExactLatestUptoRow, standIns := [], harness := (true, "d806f6229a34a88321a6eb1dae26c62d6af6a5188f3a5a715ebe9b4f9bba6328"), looks := true }, kinds := [], alts := [], laidByText := true, laidKinds := [.data, .data, .data, .data, .sentinel, .sentinel, .pinned], laidTests := true, laidLooks := .later }
def FnExactLatestUptoCardSaid : Prop := Claim7.holds Tryz.pinned (.plain (OpenSpec.upto fnExactLatestSpec)) fnExactLatestUptoCard

/-- THE SECOND FORM's CARD OF 'laws.FnExactRetire'. -/
def fnExactRetireUptoCard : Claim7 := { stood := { row := fnExactRetireUptoRow, standIns := [], harness := (true, "d806f6229a34a88321a6eb1dae26c62d6af6a5188f3a5a715ebe9b4f9bba6328"), looks := true }, kinds := [], alts := [], laidByText := true, laidKinds := [.data, .data, .data, .data, .sentinel, .sentinel, .pinned], laidTests := true, laidLooks := .later }
def FnExactRetireUptoCardSaid : Prop := Claim7.holds Tryz.pinned (.plain (OpenSpec.upto fnExactRetireSpec)) fnExactRetireUptoCard

/-- THE SECOND FORM's CARD OF 'laws.FnExactCrashStore'. -/
def fnExactCrashStoreUptoCard : Claim7 := { stood := { row := fnExactCrashStoreUptoRow, standIns := [], harness := (true, "d806f6229a34a88321a6eb1dae26c62d6af6a5188f3a5a715ebe9b4f9bba6328"), looks := true }, kinds := [], alts := [], laidByText := true, laidKinds := [.data, .data, .data, .data, .sentinel, .sentinel, .pinned], laidTests := true, laidLooks := .later }
def FnExactCrashStoreUptoCardSaid : Prop := Claim7.holds Tryz.pinned (.plain (OpenSpec.upto fnExactCrashStoreSpec)) fnExactCrashStoreUptoCard

/-- THE SECOND FORM's CARD OF 'laws.FnExactLives'. -/
def fnExactLivesUptoCard : Claim7 := { stood := { row := fnExactLivesUptoRow, standIns := [], harness := (true, "d806f6229a34a88321a6eb1dae26c62d6af6a5188f3a5a715ebe9b4f9bba6328"), looks := true }, kinds := [], alts := [], laidByText := true, laidKinds := [.data, .data, .data, .data, .sentinel, .sentinel, .pinned], laidTests := true, laidLooks := .later }
def FnExactLivesUptoCardSaid : Prop := Claim7.holds Tryz.pinned (.plain (OpenSpec.upto fnExactLivesSpec)) fnExactLivesUptoCard

/-- THE SECOND FORM's CARD OF 'laws.FnExactPublish'. -/
def fnExactPublishUptoCard : Claim7 := { stood := { row := fnExactPublishUptoRow, standIns := [], harness := (true, "d806f6229a34a88321a6eb1dae26c62d6af6a5188f3a5a715ebe9b4f9bba6328"), looks := true }, kinds := [], alts := [], laidByText := true, laidKinds := [.data, .data, .data, .data, .sentinel, .sentinel, .pinned], laidTests := true, laidLooks := .later }
def FnExactPublishUptoCardSaid : Prop := Claim7.holds Tryz.pinned (.plain (OpenSpec.upto fnExactPublishSpec)) fnExactPublishUptoCard

/-- THE SECOND FORM's CARD OF 'laws.FnExactFetch'. -/
def fnExactFetchUptoCard : Claim7 := { stood := { row := fnExactFetchUptoRow, standIns := [], harness := (true, "d806f6229a34a88321a6eb1dae26c62d6af6a5188f3a5a715ebe9b4f9bba6328"), looks := true }, kinds := [], alts := [], laidByText := true, laidKinds := [.data, .data, .data, .data, .sentinel, .sentinel, .pinned], laidTests := true, laidLooks := .later }
def FnExactFetchUptoCardSaid : Prop := Claim7.holds Tryz.pinned (.plain (OpenSpec.upto fnExactFetchSpec)) fnExactFetchUptoCard
end Rows
end Go.Proofs.YtanlnhkagepniaaGreatDoor
