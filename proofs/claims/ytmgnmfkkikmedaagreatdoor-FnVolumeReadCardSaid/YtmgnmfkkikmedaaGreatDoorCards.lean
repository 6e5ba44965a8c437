/-
  DERIVED. GIVEN WITH THE SEED: THE CARDS: each row of YtmgnmfkkikmedaaGreatDoorRows.lean that lists a variable, with what it lists TIED to the program's text (the seventh form; the later family's looks); each row that meets fmt, with fmt's text TOLD by the authors' own Lean function (tested against real Go, not proved from fmt's source: count such statements apart). THE CARD IS WHAT COUNTS. Prove the row's statement (the work); the ties are given (YtmgnmfkkikmedaaGreatDoorTie.lean); close each card by the builder's one call (the guide's Derived/Test/ToyasCard.lean, 'card_holds'). Laid BY PROGRAM, IN A SANDBOX (cutbox-door.mjs). By AI agents, Wed Nov 11 2026. No macro, syntax, notation, axiom, sorry.
-/
import Derived.Test.YtmgnmfkkikmedaaGreatDoorRows
import GoSem.ClaimSeven
namespace Go.Proofs.YtmgnmfkkikmedaaGreatDoor
namespace Rows

/-- THE TIED CARD OF 'laws.FnExactStreamOf'. -/
def fnExactStreamOfCard : Claim7 := { stood := { row := fnExactStreamOfRow, standIns := [], harness := (true, "de68dfad995cd2f4f42006481d7aa38865314789f79432de445f4c4e3703cbe5"), looks := true }, kinds := [], alts := [], laidByText := true, laidKinds := [.data, .pinned], laidTests := true, laidLooks := .later }
def FnExactStreamOfCardSaid : Prop := Claim7.holds Tryz.pinned (.plain (OpenSpec.ofChange fnExactStreamOfSpec)) fnExactStreamOfCard

/-- THE TIED CARD OF 'laws.FnVolumeReadFiles'. -/
def fnVolumeReadFilesCard : Claim7 := { stood := { row := fnVolumeReadFilesRow, standIns := [], harness := (true, "de68dfad995cd2f4f42006481d7aa38865314789f79432de445f4c4e3703cbe5"), looks := true }, kinds := [], alts := [], laidByText := true, laidKinds := [.data, .pinned], laidTests := true, laidLooks := .later }
def FnVolumeReadFilesCardSaid : Prop := Claim7.holds Tryz.pinned (.plain (OpenSpec.ofChange fnVolumeReadFilesSpec)) fnVolumeReadFilesCard

/-- THE TIED CARD OF 'laws.FnVolumeRead'. -/
def fnVolumeReadCard : Claim7 := { stood := { row := fnVolumeReadRow, standIns := [], harness := (true, "de68dfad995cd2f4f42006481d7aa38865314789f79432de445f4c4e3703cbe5"), looks := true }, kinds := [], alts := [], laidByText := true, laidKinds := [.data, .pinned], laidTests := true, laidLooks := .later }
def FnVolumeReadCardSaid : Prop := Claim7.holds Tryz.pinned (.plain (OpenSpec.ofChange fnVolumeReadSpec)) fnVolumeReadCard

/-- THE TIED CARD OF 'laws.FnVolumeDir'. -/
def fnVolumeDirCard : Claim7 := { stood := { row := fnVolumeDirRow, standIns := [], harness := (true, "de68dfad995cd2f4f42006481d7aa38865314789f79432de445f4c4e3703cbe5"), looks := true }, kinds := [], alts := [], laidByText := true, laidKinds := [.data, .pinned], laidTests := true, laidLooks := .later }
def FnVolumeDirCardSaid : Prop := Claim7.holds Tryz.pinned (.plain (OpenSpec.ofChange fnVolumeDirSpec)) fnVolumeDirCard

/-- THE TIED CARD OF 'laws.FnVolumeDrop'. -/
def fnVolumeDropCard : Claim7 := { stood := { row := fnVolumeDropRow, standIns := [], harness := (true, "de68dfad995cd2f4f42006481d7aa38865314789f79432de445f4c4e3703cbe5"), looks := true }, kinds := [], alts := [], laidByText := true, laidKinds := [.data, .pinned], laidTests := true, laidLooks := .later }
def FnVolumeDropCardSaid : Prop := Claim7.holds Tryz.pinned (.plain (OpenSpec.ofChange fnVolumeDropSpec)) fnVolumeDropCard

/-- THE TIED CARD OF 'laws.FnDiskUses'. -/
def fnDiskUsesCard : Claim7 := { stood := { row := fnDiskUsesRow, standIns := [], harness := (true, "de68dfad995cd2f4f42006481d7aa38865314789f79432de445f4c4e3703cbe5"), looks := true }, kinds := [], alts := [], laidByText := true, laidKinds := [.data, .pinned], laidTests := true, laidLooks := .later }
def FnDiskUsesCardSaid : Prop := Claim7.holds Tryz.pinned (.plain (OpenSpec.ofChange fnDiskUsesSpec)) fnDiskUsesCard

/-- THE TIED CARD OF 'laws.FnSnapRead'. -/
def fnSnapReadCard : Claim7 := { stood := { row := fnSnapReadRow, standIns := [], harness := (true, "de68dfad995cd2f4f42006481d7aa38865314789f79432de445f4c4e3703cbe5"), looks := true }, kinds := [], alts := [], laidByText := true, laidKinds := [.data, .pinned], laidTests := true, laidLooks := .later }
def FnSnapReadCardSaid : Prop := Claim7.holds Tryz.pinned (.plain (OpenSpec.ofChange fnSnapReadSpec)) fnSnapReadCard

/-- THE TIED CARD OF 'laws.FnStreamNone'. -/
def fnStreamNoneCard : Claim7 := { stood := { row := fnStreamNoneRow, standIns := [], harness := (true, "de68dfad995cd2f4f42006481d7aa38865314789f79432de445f4c4e3703cbe5"), looks := true }, kinds := [], alts := [], laidByText := true, laidKinds := [.data, .pinned], laidTests := true, laidLooks := .later }
def FnStreamNoneCardSaid : Prop := Claim7.holds Tryz.pinned (.plain (OpenSpec.ofChange fnStreamNoneSpec)) fnStreamNoneCard

/-- THE TIED CARD OF 'laws.FnStreamGone'. -/
def fnStreamGoneCard : Claim7 := { stood := { row := fnStreamGoneRow, standIns := [], harness := (true, "de68dfad995cd2f4f42006481d7aa38865314789f79432de445f4c4e3703cbe5"), looks := true }, kinds := [], alts := [], laidByText := true, laidKinds := [.data, .pinned], laidTests := true, laidLooks := .later }
def FnStreamGoneCardSaid : Prop := Claim7.holds Tryz.pinned (.plain (OpenSpec.ofChange fnStreamGoneSpec)) fnStreamGoneCard

/-- THE TIED CARD OF 'laws.FnStreamRead'. -/
def fnStreamReadCard : Claim7 := { stood := { row := fnStreamReadRow, standIns := [], harness := (true, "de68dfad995cd2f4f42006481d7aa38865314789f79432de445f4c4e3703cbe5"), looks := true }, kinds := [], alts := [], laidByText := true, laidKinds := [.data, .pinned], laidTests := true, laidLooks := .later }
def FnStreamReadCardSaid : Prop := Claim7.holds Tryz.pinned (.plain (OpenSpec.ofChange fnStreamReadSpec)) fnStreamReadCard

/-- THE SECOND FORM's CARD OF 'laws.FnExactStreamOf'. -/
def fnExactStreamOfUptoCard : Claim7 := { stood := { row := fnExactStreamOfUptoRow, standIns := [], harness := (true, "de68dfad995cd2f4f42006481d7aa38865314789f79432de445f4c4e3703cbe5"), looks := true }, kinds := [], alts := [], laidByText := true, laidKinds := [.data, .pinned], laidTests := true, laidLooks := .later }
def FnExactStreamOfUptoCardSaid : Prop := Claim7.holds Tryz.pinned (.plain (OpenSpec.upto fnExactStreamOfSpec)) fnExactStreamOfUptoCard

/-- THE SECOND FORM's CARD OF 'laws.FnVolumeReadFiles'. -/
def fnVolumeReadFilesUptoCard : Claim7 := { stood := { row := fnVolumeReadFilesUptoRow, standIns := [], harness := (true, "de68dfad995cd2f4f42006481d7aa38865314789f79432de445f4c4e3703cbe5"), looks := true }, kinds := [], alts := [], laidByText := true, laidKinds := [.data, .pinned], laidTests := true, laidLooks := .later }
def FnVolumeReadFilesUptoCardSaid : Prop := Claim7.holds Tryz.pinned (.plain (OpenSpec.upto fnVolumeReadFilesSpec)) fnVolumeReadFilesUptoCard

/-- THE SECOND FORM's CARD OF 'laws.FnVolumeRead'. -/
def fnVolumeReadUptoCard : Claim7 := { stood := { row := fnVolumeReadUptoRow, standIns := [], harness := (true, "de68dfad995cd2f4f42006481d7aa38865314789f79432de445f4c4e3703cbe5"), looks := true }, kinds := [], alts := [], laidByText := true, laidKinds := [.data, .pinned], laidTests := true, laidLooks := .later }
def FnVolumeReadUptoCardSaid : Prop := Claim7.holds Tryz.pinned (.plain (OpenSpec.upto fnVolumeReadSpec)) fnVolumeReadUptoCard

/-- THE SECOND FORM's CARD OF 'laws.FnVolumeDir'. -/
def fnVolumeDirUptoCard : Claim7 := { stood := { row := fnVolumeDirUptoRow, standIns := [], harness := (true, "de68dfad995cd2f4f42006481d7aa38865314789f79432de445f4c4e3703cbe5"), looks := true }, kinds := [], alts := [], laidByText := true, laidKinds := [.data, .pinned], laidTests := true, laidLooks := .later }
def FnVolumeDirUptoCardSaid : Prop := Claim7.holds Tryz.pinned (.plain (OpenSpec.upto fnVolumeDirSpec)) fnVolumeDirUptoCard

/-- THE SECOND FORM's CARD OF 'laws.FnVolumeDrop'. -/
def fnVolumeDropUptoCard : Claim7 := { stood := { row := fnVolumeDropUptoRow, standIns := [], harness := (true, "de68dfad995cd2f4f42006481d7aa38865314789f79432de445f4c4e3703cbe5"), looks := true }, kinds := [], alts := [], laidByText := true, laidKinds := [.data, .pinned], laidTests := true, laidLooks := .later }
def FnVolumeDropUptoCardSaid : Prop := Claim7.holds Tryz.pinned (.plain (OpenSpec.upto fnVolumeDropSpec)) fnVolumeDropUptoCard

/-- THE SECOND FORM's CARD OF 'laws.FnDiskUses'. -/
def fnDiskUsesUptoCard : Claim7 := { stood := { row := fnDiskUsesUptoRow, standIns := [], harness := (true, "de68dfad995cd2f4f42006481d7aa38865314789f79432de445f4c4e3703cbe5"), looks := true }, kinds := [], alts := [], laidByText := true, laidKinds := [.data, .pinned], laidTests := true, laidLooks := .later }
def FnDiskUsesUptoCardSaid : Prop := Claim7.holds Tryz.pinned (.plain (OpenSpec.upto fnDiskUsesSpec)) fnDiskUsesUptoCard

/-- THE SECOND FORM's CARD OF 'laws.FnSnapRead'. -/
def fnSnapReadUptoCard : Claim7 := { stood := { row := fnSnapReadUptoRow, standIns := [], harness := (true, "de68dfad995cd2f4f42006481d7aa38865314789f79432de445f4c4e3703cbe5"), looks := true }, kinds := [], alts := [], laidByText := true, laidKinds := [.data, .pinned], laidTests := true, laidLooks := .later }
def FnSnapReadUptoCardSaid : Prop := Claim7.holds Tryz.pinned (.plain (OpenSpec.upto fnSnapReadSpec)) fnSnapReadUptoCard

/-- THE SECOND FORM's CARD OF 'laws.FnStreamNone'. -/
def fnStreamNoneUptoCard : Claim7 := { stood := { row := fnStreamNoneUptoRow, standIns := [], harness := (true, "de68dfad995cd2f4f42006481d7aa38865314789f79432de445f4c4e3703cbe5"), looks := true }, kinds := [], alts := [], laidByText := true, laidKinds := [.data, .pinned], laidTests := true, laidLooks := .later }
def FnStreamNoneUptoCardSaid : Prop := Claim7.holds Tryz.pinned (.plain (OpenSpec.upto fnStreamNoneSpec)) fnStreamNoneUptoCard

/-- THE SECOND FORM's CARD OF 'laws.FnStreamGone'. -/
def fnStreamGoneUptoCard : Claim7 := { stood := { row := fnStreamGoneUptoRow, standIns := [], harness := (true, "de68dfad995cd2f4f42006481d7aa38865314789f79432de445f4c4e3703cbe5"), looks := true }, kinds := [], alts := [], laidByText := true, laidKinds := [.data, .pinned], laidTests := true, laidLooks := .later }
def FnStreamGoneUptoCardSaid : Prop := Claim7.holds Tryz.pinned (.plain (OpenSpec.upto fnStreamGoneSpec)) fnStreamGoneUptoCard

/-- THE SECOND FORM's CARD OF 'laws.FnStreamRead'. -/
def fnStreamReadUptoCard : Claim7 := { stood := { row := fnStreamReadUptoRow, standIns := [], harness := (true, "de68dfad995cd2f4f42006481d7aa38865314789f79432de445f4c4e3703cbe5"), looks := true }, kinds := [], alts := [], laidByText := true, laidKinds := [.data, .pinned], laidTests := true, laidLooks := .later }
def FnStreamReadUptoCardSaid : Prop := Claim7.holds Tryz.pinned (.plain (OpenSpec.upto fnStreamReadSpec)) fnStreamReadUptoCard
end Rows
end Go.Proofs.YtmgnmfkkikmedaaGreatDoor
