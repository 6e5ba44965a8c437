/-
  DERIVED. GIVEN WITH THE SEED: THE CARDS: each row of YtneabdoianmfhaaGreatDoorRows.lean that lists a variable, with what it lists TIED to the program's text (the seventh form; the later family's looks); each row that meets fmt, with fmt's text TOLD by the authors' own Lean function (tested against real Go, not proved from fmt's source: count such statements apart). THE CARD IS WHAT COUNTS. Prove the row's statement (the work); the ties are given (YtneabdoianmfhaaGreatDoorTie.lean); close each card by the builder's one call (the guide's Derived/Test/ToyasCard.lean, 'card_holds'). Laid BY PROGRAM, IN A SANDBOX (cutbox-door.mjs). By AI agents, Wed Nov 11 2026. No macro, syntax, notation, axiom, sorry.
-/
import Derived.Test.YtneabdoianmfhaaGreatDoorRows
import GoSem.ClaimSeven
namespace Go.Proofs.YtneabdoianmfhaaGreatDoor
namespace Rows

/-- THE TIED CARD OF 'laws.FnExactCountOnly'. -/
def fnExactCountOnlyCard : Claim7 := { stood := { row := fnExactCountOnlyRow, standIns := [], harness := (true, "5b1f9454adf6d92af4d65891658449523015e3caa96addf3e572bde1cd8534bd"), looks := true }, kinds := [], alts := [], laidByText := true, laidKinds := [.data, .handle, .pinned], laidTests := true, laidLooks := .later }
def FnExactCountOnlyCardSaid : Prop := Claim7.holds Tryz.pinned (.plain (OpenSpec.ofChange fnExactCountOnlySpec)) fnExactCountOnlyCard

/-- THE TIED CARD OF 'laws.FnExactCountBytes'. -/
def fnExactCountBytesCard : Claim7 := { stood := { row := fnExactCountBytesRow, standIns := [], harness := (true, "5b1f9454adf6d92af4d65891658449523015e3caa96addf3e572bde1cd8534bd"), looks := true }, kinds := [], alts := [], laidByText := true, laidKinds := [.data, .handle, .pinned], laidTests := true, laidLooks := .later }
def FnExactCountBytesCardSaid : Prop := Claim7.holds Tryz.pinned (.plain (OpenSpec.ofChange fnExactCountBytesSpec)) fnExactCountBytesCard

/-- THE TIED CARD OF 'laws.FnExactHistoryOf'. -/
def fnExactHistoryOfCard : Claim7 := { stood := { row := fnExactHistoryOfRow, standIns := [], harness := (true, "5b1f9454adf6d92af4d65891658449523015e3caa96addf3e572bde1cd8534bd"), looks := true }, kinds := [], alts := [], laidByText := true, laidKinds := [.data, .pinned], laidTests := true, laidLooks := .later }
def FnExactHistoryOfCardSaid : Prop := Claim7.holds Tryz.pinned (.plain (OpenSpec.ofChange fnExactHistoryOfSpec)) fnExactHistoryOfCard

/-- THE TIED CARD OF 'laws.FnExactStreamOf'. -/
def fnExactStreamOfCard : Claim7 := { stood := { row := fnExactStreamOfRow, standIns := [], harness := (true, "5b1f9454adf6d92af4d65891658449523015e3caa96addf3e572bde1cd8534bd"), looks := true }, kinds := [], alts := [], laidByText := true, laidKinds := [.data, .pinned], laidTests := true, laidLooks := .later }
def FnExactStreamOfCardSaid : Prop := Claim7.holds Tryz.pinned (.plain (OpenSpec.ofChange fnExactStreamOfSpec)) fnExactStreamOfCard

/-- THE TIED CARD OF 'laws.FnExactQuotasOver'. -/
def fnExactQuotasOverCard : Claim7 := { stood := { row := fnExactQuotasOverRow, standIns := [], harness := (true, "5b1f9454adf6d92af4d65891658449523015e3caa96addf3e572bde1cd8534bd"), looks := true }, kinds := [], alts := [], laidByText := true, laidKinds := [.data, .sentinel, .pinned], laidTests := true, laidLooks := .later }
def FnExactQuotasOverCardSaid : Prop := Claim7.holds Tryz.pinned (.plain (OpenSpec.ofChange fnExactQuotasOverSpec)) fnExactQuotasOverCard

/-- THE TIED CARD OF 'laws.FnExactVolumeDir'. -/
def fnExactVolumeDirCard : Claim7 := { stood := { row := fnExactVolumeDirRow, standIns := [], harness := (true, "5b1f9454adf6d92af4d65891658449523015e3caa96addf3e572bde1cd8534bd"), looks := true }, kinds := [], alts := [], laidByText := true, laidKinds := [.data, .pinned], laidTests := true, laidLooks := .later }
def FnExactVolumeDirCardSaid : Prop := Claim7.holds Tryz.pinned (.plain (OpenSpec.ofChange fnExactVolumeDirSpec)) fnExactVolumeDirCard

/-- THE TIED CARD OF 'laws.FnExactVolumeDrop'. -/
def fnExactVolumeDropCard : Claim7 := { stood := { row := fnExactVolumeDropRow, standIns := [], harness := (true, "5b1f9454adf6d92af4d65891658449523015e3caa96addf3e572bde1cd8534bd"), looks := true }, kinds := [], alts := [], laidByText := true, laidKinds := [.data, .pinned], laidTests := true, laidLooks := .later }
def FnExactVolumeDropCardSaid : Prop := Claim7.holds Tryz.pinned (.plain (OpenSpec.ofChange fnExactVolumeDropSpec)) fnExactVolumeDropCard

/-- THE TIED CARD OF 'laws.FnExactCountShared'. -/
def fnExactCountSharedCard : Claim7 := { stood := { row := fnExactCountSharedRow, standIns := [], harness := (true, "5b1f9454adf6d92af4d65891658449523015e3caa96addf3e572bde1cd8534bd"), looks := true }, kinds := [], alts := [], laidByText := true, laidKinds := [.data, .handle, .pinned], laidTests := true, laidLooks := .later }
def FnExactCountSharedCardSaid : Prop := Claim7.holds Tryz.pinned (.plain (OpenSpec.ofChange fnExactCountSharedSpec)) fnExactCountSharedCard

/-- THE SECOND FORM's CARD OF 'laws.FnExactCountOnly'. -/
def fnExactCountOnlyUptoCard : Claim7 := { stood := { row := fnExactCountOnlyUptoRow, standIns := [], harness := (true, "5b1f9454adf6d92af4d65891658449523015e3caa96addf3e572bde1cd8534bd"), looks := true }, kinds := [], alts := [], laidByText := true, laidKinds := [.data, .handle, .pinned], laidTests := true, laidLooks := .later }
def FnExactCountOnlyUptoCardSaid : Prop := Claim7.holds Tryz.pinned (.plain (OpenSpec.upto fnExactCountOnlySpec)) fnExactCountOnlyUptoCard

/-- THE SECOND FORM's CARD OF 'laws.FnExactCountBytes'. -/
def fnExactCountBytesUptoCard : Claim7 := { stood := { row := fnExactCountBytesUptoRow, standIns := [], harness := (true, "5b1f9454adf6d92af4d65891658449523015e3caa96addf3e572bde1cd8534bd"), looks := true }, kinds := [], alts := [], laidByText := true, laidKinds := [.data, .handle, .pinned], laidTests := true, laidLooks := .later }
def FnExactCountBytesUptoCardSaid : Prop := Claim7.holds Tryz.pinned (.plain (OpenSpec.upto fnExactCountBytesSpec)) fnExactCountBytesUptoCard

/-- THE SECOND FORM's CARD OF 'laws.FnExactHistoryOf'. -/
def fnExactHistoryOfUptoCard : Claim7 := { stood := { row := fnExactHistoryOfUptoRow, standIns := [], harness := (true, "5b1f9454adf6d92af4d65891658449523015e3caa96addf3e572bde1cd8534bd"), looks := true }, kinds := [], alts := [], laidByText := true, laidKinds := [.data, .pinned], laidTests := true, laidLooks := .later }
def FnExactHistoryOfUptoCardSaid : Prop := Claim7.holds Tryz.pinned (.plain (OpenSpec.upto fnExactHistoryOfSpec)) fnExactHistoryOfUptoCard

/-- THE SECOND FORM's CARD OF 'laws.FnExactStreamOf'. -/
def fnExactStreamOfUptoCard : Claim7 := { stood := { row := fnExactStreamOfUptoRow, standIns := [], harness := (true, "5b1f9454adf6d92af4d65891658449523015e3caa96addf3e572bde1cd8534bd"), looks := true }, kinds := [], alts := [], laidByText := true, laidKinds := [.data, .pinned], laidTests := true, laidLooks := .later }
def FnExactStreamOfUptoCardSaid : Prop := Claim7.holds Tryz.pinned (.plain (OpenSpec.upto fnExactStreamOfSpec)) fnExactStreamOfUptoCard

/-- THE SECOND FORM's CARD OF 'laws.FnExactQuotasOver'. -/
def fnExactQuotasOverUptoCard : Claim7 := { stood := { row := fnExactQuotasOverUptoRow, standIns := [], harness := (true, "5b1f9454adf6d92af4d65891658449523015e3caa96addf3e572bde1cd8534bd"), looks := true }, kinds := [], alts := [], laidByText := true, laidKinds := [.data, .sentinel, .pinned], laidTests := true, laidLooks := .later }
def FnExactQuotasOverUptoCardSaid : Prop := Claim7.holds Tryz.pinned (.plain (OpenSpec.upto fnExactQuotasOverSpec)) fnExactQuotasOverUptoCard

/-- THE SECOND FORM's CARD OF 'laws.FnExactVolumeDir'. -/
def fnExactVolumeDirUptoCard : Claim7 := { stood := { row := fnExactVolumeDirUptoRow, standIns := [], harness := (true, "5b1f9454adf6d92af4d65891658449523015e3caa96addf3e572bde1cd8534bd"), looks := true }, kinds := [], alts := [], laidByText := true, laidKinds := [.data, .pinned], laidTests := true, laidLooks := .later }
def FnExactVolumeDirUptoCardSaid : Prop := Claim7.holds Tryz.pinned (.plain (OpenSpec.upto fnExactVolumeDirSpec)) fnExactVolumeDirUptoCard

/-- THE SECOND FORM's CARD OF 'laws.FnExactVolumeDrop'. -/
def fnExactVolumeDropUptoCard : Claim7 := { stood := { row := fnExactVolumeDropUptoRow, standIns := [], harness := (true, "5b1f9454adf6d92af4d65891658449523015e3caa96addf3e572bde1cd8534bd"), looks := true }, kinds := [], alts := [], laidByText := true, laidKinds := [.data, .pinned], laidTests := true, laidLooks := .later }
def FnExactVolumeDropUptoCardSaid : Prop := Claim7.holds Tryz.pinned (.plain (OpenSpec.upto fnExactVolumeDropSpec)) fnExactVolumeDropUptoCard

/-- THE SECOND FORM's CARD OF 'laws.FnExactCountShared'. -/
def fnExactCountSharedUptoCard : Claim7 := { stood := { row := fnExactCountSharedUptoRow, standIns := [], harness := (true, "5b1f9454adf6d92af4d65891658449523015e3caa96addf3e572bde1cd8534bd"), looks := true }, kinds := [], alts := [], laidByText := true, laidKinds := [.data, .handle, .pinned], laidTests := true, laidLooks := .later }
def FnExactCountSharedUptoCardSaid : Prop := Claim7.holds Tryz.pinned (.plain (OpenSpec.upto fnExactCountSharedSpec)) fnExactCountSharedUptoCard
end Rows
end Go.Proofs.YtneabdoianmfhaaGreatDoor
