/-
  DERIVED. GIVEN WITH THE SEED: THE CARDS: each row of YtdnnojghjnjnfaaGreatDoorRows.lean that lists a variable, with what it lists TIED to the program's text (the seventh form; the later family's looks); each row that meets fmt, with fmt's text TOLD by the authors' own Lean function (tested against real Go, not proved from fmt's source: count such statements apart). THE CARD IS WHAT COUNTS. Prove the row's statement (the work); the ties are given (YtdnnojghjnjnfaaGreatDoorTie.lean); close each card by the builder's one call (the guide's Derived/Test/ToyasCard.lean, 'card_holds'). Laid BY PROGRAM, IN A SANDBOX (cutbox-door.mjs). By AI agents, Wed Nov 11 2026. No macro, syntax, notation, axiom, sorry.
-/
import Derived.Test.YtdnnojghjnjnfaaGreatDoorRows
import GoSem.ClaimSeven
namespace Go.Proofs.YtdnnojghjnjnfaaGreatDoor
namespace Rows

/-- THE TIED CARD OF 'laws.FnVolumeDir'. -/
def fnVolumeDirCard : Claim7 := { stood := { row := fnVolumeDirRow, standIns := [], harness := (true, "0b7c7b0cbe6731e4e52b4029dd2ed8989cb79ff1101fa2a29751a7d1c16d1180"), looks := true }, kinds := [], alts := [], laidByText := true, laidKinds := [.data, .pinned], laidTests := true, laidLooks := .later }
def FnVolumeDirCardSaid : Prop := Claim7.holds Tryz.pinned (.plain (OpenSpec.ofChange fnVolumeDirSpec)) fnVolumeDirCard

/-- THE TIED CARD OF 'laws.FnDiskUses'. -/
def fnDiskUsesCard : Claim7 := { stood := { row := fnDiskUsesRow, standIns := [], harness := (true, "0b7c7b0cbe6731e4e52b4029dd2ed8989cb79ff1101fa2a29751a7d1c16d1180"), looks := true }, kinds := [], alts := [], laidByText := true, laidKinds := [.data, .pinned], laidTests := true, laidLooks := .later }
def FnDiskUsesCardSaid : Prop := Claim7.holds Tryz.pinned (.plain (OpenSpec.ofChange fnDiskUsesSpec)) fnDiskUsesCard

/-- THE TIED CARD OF 'laws.FnSnapRead'. -/
def fnSnapReadCard : Claim7 := { stood := { row := fnSnapReadRow, standIns := [], harness := (true, "0b7c7b0cbe6731e4e52b4029dd2ed8989cb79ff1101fa2a29751a7d1c16d1180"), looks := true }, kinds := [], alts := [], laidByText := true, laidKinds := [.data, .pinned], laidTests := true, laidLooks := .later }
def FnSnapReadCardSaid : Prop := Claim7.holds Tryz.pinned (.plain (OpenSpec.ofChange fnSnapReadSpec)) fnSnapReadCard

/-- THE TIED CARD OF 'laws.FnStreamNone'. -/
def fnStreamNoneCard : Claim7 := { stood := { row := fnStreamNoneRow, standIns := [], harness := (true, "0b7c7b0cbe6731e4e52b4029dd2ed8989cb79ff1101fa2a29751a7d1c16d1180"), looks := true }, kinds := [], alts := [], laidByText := true, laidKinds := [.data, .pinned], laidTests := true, laidLooks := .later }
def FnStreamNoneCardSaid : Prop := Claim7.holds Tryz.pinned (.plain (OpenSpec.ofChange fnStreamNoneSpec)) fnStreamNoneCard

/-- THE TIED CARD OF 'laws.FnStreamGone'. -/
def fnStreamGoneCard : Claim7 := { stood := { row := fnStreamGoneRow, standIns := [], harness := (true, "0b7c7b0cbe6731e4e52b4029dd2ed8989cb79ff1101fa2a29751a7d1c16d1180"), looks := true }, kinds := [], alts := [], laidByText := true, laidKinds := [.data, .pinned], laidTests := true, laidLooks := .later }
def FnStreamGoneCardSaid : Prop := Claim7.holds Tryz.pinned (.plain (OpenSpec.ofChange fnStreamGoneSpec)) fnStreamGoneCard

/-- THE TIED CARD OF 'laws.FnStreamRead'. -/
def fnStreamReadCard : Claim7 := { stood := { row := fnStreamReadRow, standIns := [], harness := (true, "0b7c7b0cbe6731e4e52b4029dd2ed8989cb79ff1101fa2a29751a7d1c16d1180"), looks := true }, kinds := [], alts := [], laidByText := true, laidKinds := [.data, .pinned], laidTests := true, laidLooks := .later }
def FnStreamReadCardSaid : Prop := Claim7.holds Tryz.pinned (.plain (OpenSpec.ofChange fnStreamReadSpec)) fnStreamReadCard

/-- THE TIED CARD OF 'laws.FnUsedAll'. -/
def fnUsedAllCard : Claim7 := { stood := { row := fnUsedAllRow, standIns := [], harness := (true, "0b7c7b0cbe6731e4e52b4029dd2ed8989cb79ff1101fa2a29751a7d1c16d1180"), looks := true }, kinds := [], alts := [], laidByText := true, laidKinds := [.data, .pinned], laidTests := true, laidLooks := .later }
def FnUsedAllCardSaid : Prop := Claim7.holds Tryz.pinned (.plain (OpenSpec.ofChange fnUsedAllSpec)) fnUsedAllCard

/-- THE TIED CARD OF 'laws.FnUsedParts'. -/
def fnUsedPartsCard : Claim7 := { stood := { row := fnUsedPartsRow, standIns := [], harness := (true, "0b7c7b0cbe6731e4e52b4029dd2ed8989cb79ff1101fa2a29751a7d1c16d1180"), looks := true }, kinds := [], alts := [], laidByText := true, laidKinds := [.data, .pinned], laidTests := true, laidLooks := .later }
def FnUsedPartsCardSaid : Prop := Claim7.holds Tryz.pinned (.plain (OpenSpec.ofChange fnUsedPartsSpec)) fnUsedPartsCard

/-- THE TIED CARD OF 'laws.FnUsed'. -/
def fnUsedCard : Claim7 := { stood := { row := fnUsedRow, standIns := [], harness := (true, "0b7c7b0cbe6731e4e52b4029dd2ed8989cb79ff1101fa2a29751a7d1c16d1180"), looks := true }, kinds := [], alts := [], laidByText := true, laidKinds := [.data, .pinned], laidTests := true, laidLooks := .later }
def FnUsedCardSaid : Prop := Claim7.holds Tryz.pinned (.plain (OpenSpec.ofChange fnUsedSpec)) fnUsedCard

/-- THE TIED CARD OF 'laws.FnHistoryTurns'. -/
def fnHistoryTurnsCard : Claim7 := { stood := { row := fnHistoryTurnsRow, standIns := [], harness := (true, "0b7c7b0cbe6731e4e52b4029dd2ed8989cb79ff1101fa2a29751a7d1c16d1180"), looks := true }, kinds := [], alts := [], laidByText := true, laidKinds := [.data, .pinned], laidTests := true, laidLooks := .later }
def FnHistoryTurnsCardSaid : Prop := Claim7.holds Tryz.pinned (.plain (OpenSpec.ofChange fnHistoryTurnsSpec)) fnHistoryTurnsCard

/-- THE TIED CARD OF 'laws.FnHistory'. -/
def fnHistoryCard : Claim7 := { stood := { row := fnHistoryRow, standIns := [], harness := (true, "0b7c7b0cbe6731e4e52b4029dd2ed8989cb79ff1101fa2a29751a7d1c16d1180"), looks := true }, kinds := [], alts := [], laidByText := true, laidKinds := [.data, .pinned], laidTests := true, laidLooks := .later }
def FnHistoryCardSaid : Prop := Claim7.holds Tryz.pinned (.plain (OpenSpec.ofChange fnHistorySpec)) fnHistoryCard

/-- THE TIED CARD OF 'laws.FnHistoryNone'. -/
def fnHistoryNoneCard : Claim7 := { stood := { row := fnHistoryNoneRow, standIns := [], harness := (true, "0b7c7b0cbe6731e4e52b4029dd2ed8989cb79ff1101fa2a29751a7d1c16d1180"), looks := true }, kinds := [], alts := [], laidByText := true, laidKinds := [.data, .pinned], laidTests := true, laidLooks := .later }
def FnHistoryNoneCardSaid : Prop := Claim7.holds Tryz.pinned (.plain (OpenSpec.ofChange fnHistoryNoneSpec)) fnHistoryNoneCard

/-- THE SECOND FORM's CARD OF 'laws.FnVolumeDir'. -/
def fnVolumeDirUptoCard : Claim7 := { stood := { row := fnVolumeDirUptoRow, standIns := [], harness := (true, "0b7c7b0cbe6731e4e52b4029dd2ed8989cb79ff1101fa2a29751a7d1c16d1180"), looks := true }, kinds := [], alts := [], laidByText := true, laidKinds := [.data, .pinned], laidTests := true, laidLooks := .later }
def FnVolumeDirUptoCardSaid : Prop := Claim7.holds Tryz.pinned (.plain (OpenSpec.upto fnVolumeDirSpec)) fnVolumeDirUptoCard

/-- THE SECOND FORM's CARD OF 'laws.FnDiskUses'. -/
def fnDiskUsesUptoCard : Claim7 := { stood := { row := fnDiskUsesUptoRow, standIns := [], harness := (true, "0b7c7b0cbe6731e4e52b4029dd2ed8989cb79ff1101fa2a29751a7d1c16d1180"), looks := true }, kinds := [], alts := [], laidByText := true, laidKinds := [.data, .pinned], laidTests := true, laidLooks := .later }
def FnDiskUsesUptoCardSaid : Prop := Claim7.holds Tryz.pinned (.plain (OpenSpec.upto fnDiskUsesSpec)) fnDiskUsesUptoCard

/-- THE SECOND FORM's CARD OF 'laws.FnSnapRead'. -/
def fnSnapReadUptoCard : Claim7 := { stood := { row := fnSnapReadUptoRow, standIns := [], harness := (true, "0b7c7b0cbe6731e4e52b4029dd2ed8989cb79ff1101fa2a29751a7d1c16d1180"), looks := true }, kinds := [], alts := [], laidByText := true, laidKinds := [.data, .pinned], laidTests := true, laidLooks := .later }
def FnSnapReadUptoCardSaid : Prop := Claim7.holds Tryz.pinned (.plain (OpenSpec.upto fnSnapReadSpec)) fnSnapReadUptoCard

/-- THE SECOND FORM's CARD OF 'laws.FnStreamNone'. -/
def fnStreamNoneUptoCard : Claim7 := { stood := { row := fnStreamNoneUptoRow, standIns := [], harness := (true, "0b7c7b0cbe6731e4e52b4029dd2ed8989cb79ff1101fa2a29751a7d1c16d1180"), looks := true }, kinds := [], alts := [], laidByText := true, laidKinds := [.data, .pinned], laidTests := true, laidLooks := .later }
def FnStreamNoneUptoCardSaid : Prop := Claim7.holds Tryz.pinned (.plain (OpenSpec.upto fnStreamNoneSpec)) fnStreamNoneUptoCard

/-- THE SECOND FORM's CARD OF 'laws.FnStreamGone'. -/
def fnStreamGoneUptoCard : Claim7 := { stood := { row := fnStreamGoneUptoRow, standIns := [], harness := (true, "0b7c7b0cbe6731e4e52b4029dd2ed8989cb79ff1101fa2a29751a7d1c16d1180"), looks := true }, kinds := [], alts := [], laidByText := true, laidKinds := [.data, .pinned], laidTests := true, laidLooks := .later }
def FnStreamGoneUptoCardSaid : Prop := Claim7.holds Tryz.pinned (.plain (OpenSpec.upto fnStreamGoneSpec)) fnStreamGoneUptoCard

/-- THE SECOND FORM's CARD OF 'laws.FnStreamRead'. -/
def fnStreamReadUptoCard : Claim7 := { stood := { row := fnStreamReadUptoRow, standIns := [], harness := (true, "0b7c7b0cbe6731e4e52b4029dd2ed8989cb79ff1101fa2a29751a7d1c16d1180"), looks := true }, kinds := [], alts := [], laidByText := true, laidKinds := [.data, .pinned], laidTests := true, laidLooks := .later }
def FnStreamReadUptoCardSaid : Prop := Claim7.holds Tryz.pinned (.plain (OpenSpec.upto fnStreamReadSpec)) fnStreamReadUptoCard

/-- THE SECOND FORM's CARD OF 'laws.FnUsedAll'. -/
def fnUsedAllUptoCard : Claim7 := { stood := { row := fnUsedAllUptoRow, standIns := [], harness := (true, "0b7c7b0cbe6731e4e52b4029dd2ed8989cb79ff1101fa2a29751a7d1c16d1180"), looks := true }, kinds := [], alts := [], laidByText := true, laidKinds := [.data, .pinned], laidTests := true, laidLooks := .later }
def FnUsedAllUptoCardSaid : Prop := Claim7.holds Tryz.pinned (.plain (OpenSpec.upto fnUsedAllSpec)) fnUsedAllUptoCard

/-- THE SECOND FORM's CARD OF 'laws.FnUsedParts'. -/
def fnUsedPartsUptoCard : Claim7 := { stood := { row := fnUsedPartsUptoRow, standIns := [], harness := (true, "0b7c7b0cbe6731e4e52b4029dd2ed8989cb79ff1101fa2a29751a7d1c16d1180"), looks := true }, kinds := [], alts := [], laidByText := true, laidKinds := [.data, .pinned], laidTests := true, laidLooks := .later }
def FnUsedPartsUptoCardSaid : Prop := Claim7.holds Tryz.pinned (.plain (OpenSpec.upto fnUsedPartsSpec)) fnUsedPartsUptoCard

/-- THE SECOND FORM's CARD OF 'laws.FnUsed'. -/
def fnUsedUptoCard : Claim7 := { stood := { row := fnUsedUptoRow, standIns := [], harness := (true, "0b7c7b0cbe6731e4e52b4029dd2ed8989cb79ff1101fa2a29751a7d1c16d1180"), looks := true }, kinds := [], alts := [], laidByText := true, laidKinds := [.data, .pinned], laidTests := true, laidLooks := .later }
def FnUsedUptoCardSaid : Prop := Claim7.holds Tryz.pinned (.plain (OpenSpec.upto fnUsedSpec)) fnUsedUptoCard

/-- THE SECOND FORM's CARD OF 'laws.FnHistoryTurns'. -/
def fnHistoryTurnsUptoCard : Claim7 := { stood := { row := fnHistoryTurnsUptoRow, standIns := [], harness := (true, "0b7c7b0cbe6731e4e52b4029dd2ed8989cb79ff1101fa2a29751a7d1c16d1180"), looks := true }, kinds := [], alts := [], laidByText := true, laidKinds := [.data, .pinned], laidTests := true, laidLooks := .later }
def FnHistoryTurnsUptoCardSaid : Prop := Claim7.holds Tryz.pinned (.plain (OpenSpec.upto fnHistoryTurnsSpec)) fnHistoryTurnsUptoCard

/-- THE SECOND FORM's CARD OF 'laws.FnHistory'. -/
def fnHistoryUptoCard : Claim7 := { stood := { row := fnHistoryUptoRow, standIns := [], harness := (true, "0b7c7b0cbe6731e4e52b4029dd2ed8989cb79ff1101fa2a29751a7d1c16d1180"), looks := true }, kinds := [], alts := [], laidByText := true, laidKinds := [.data, .pinned], laidTests := true, laidLooks := .later }
def FnHistoryUptoCardSaid : Prop := Claim7.holds Tryz.pinned (.plain (OpenSpec.upto fnHistorySpec)) fnHistoryUptoCard

/-- THE SECOND FORM's CARD OF 'laws.FnHistoryNone'. -/
def fnHistoryNoneUptoCard : Claim7 := { stood := { row := fnHistoryNoneUptoRow, standIns := [], harness := (true, "0b7c7b0cbe6731e4e52b4029dd2ed8989cb79ff1101fa2a29751a7d1c16d1180"), looks := true }, kinds := [], alts := [], laidByText := true, laidKinds := [.data, .pinned], laidTests := true, laidLooks := .later }
def FnHistoryNoneUptoCardSaid : Prop := Claim7.holds Tryz.pinned (.plain (OpenSpec.upto fnHistoryNoneSpec)) fnHistoryNoneUptoCard
end Rows
end Go.Proofs.YtdnnojghjnjnfaaGreatDoor
