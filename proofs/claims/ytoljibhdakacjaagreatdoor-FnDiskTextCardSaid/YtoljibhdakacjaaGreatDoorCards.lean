/-
  DERIVED. GIVEN WITH THE SEED: THE CARDS: each row of YtoljibhdakacjaaGreatDoorRows.lean that lists a variable, with what it lists TIED to the program's text (the seventh form; the later family's looks); each row that meets fmt, with fmt's text TOLD by the authors' own Lean function (tested against real Go, not proved from fmt's source: count such statements apart). THE CARD IS WHAT COUNTS. Prove the row's statement (the work); the ties are given (YtoljibhdakacjaaGreatDoorTie.lean); close each card by the builder's one call (the guide's Derived/Test/ToyasCard.lean, 'card_holds'). Laid BY PROGRAM, IN A SANDBOX (cutbox-door.mjs). By AI agents, Wed Nov 11 2026. No macro, syntax, notation, axiom, sorry.
-/
import Derived.Test.YtoljibhdakacjaaGreatDoorRows
import GoSem.ClaimSeven
namespace Go.Proofs.YtoljibhdakacjaaGreatDoor
namespace Rows

/-- THE TIED CARD OF 'laws.FnLast'. -/
def fnLastCard : Claim7 := { stood := { row := fnLastRow, standIns := [], harness := (true, "485b7d68372ae37302158545a8556e507e38e0fc988fa2257c71473791ac9ce3"), looks := true }, kinds := [], alts := [], laidByText := true, laidKinds := [.data, .pinned], laidTests := true, laidLooks := .later }
def FnLastCardSaid : Prop := Claim7.holds Tryz.pinned (.plain (OpenSpec.ofChange fnLastSpec)) fnLastCard

/-- THE TIED CARD OF 'laws.FnOver'. -/
def fnOverCard : Claim7 := { stood := { row := fnOverRow, standIns := [], harness := (true, "485b7d68372ae37302158545a8556e507e38e0fc988fa2257c71473791ac9ce3"), looks := true }, kinds := [], alts := [], laidByText := true, laidKinds := [.data, .sentinel, .pinned], laidTests := true, laidLooks := .later }
def FnOverCardSaid : Prop := Claim7.holds Tryz.pinned (.plain (OpenSpec.ofChange fnOverSpec)) fnOverCard

/-- THE TIED CARD OF 'laws.FnAllowLess'. -/
def fnAllowLessCard : Claim7 := { stood := { row := fnAllowLessRow, standIns := [], harness := (true, "485b7d68372ae37302158545a8556e507e38e0fc988fa2257c71473791ac9ce3"), looks := true }, kinds := [], alts := [], laidByText := true, laidKinds := [.data, .sentinel, .pinned], laidTests := true, laidLooks := .later }
def FnAllowLessCardSaid : Prop := Claim7.holds Tryz.pinned (.plain (OpenSpec.ofChange fnAllowLessSpec)) fnAllowLessCard

/-- THE TIED CARD OF 'laws.FnTreeText'. -/
def fnTreeTextCard : Claim7 := { stood := { row := fnTreeTextRow, standIns := [], harness := (true, "485b7d68372ae37302158545a8556e507e38e0fc988fa2257c71473791ac9ce3"), looks := true }, kinds := [], alts := [], laidByText := true, laidKinds := [.data, .data, .data, .data, .pinned], laidTests := true, laidLooks := .later }
def FnTreeTextCardSaid : Prop := Claim7.holds Tryz.pinned (.plain (OpenSpec.ofChange fnTreeTextSpec)) fnTreeTextCard

/-- THE TIED CARD OF 'laws.FnTreeTextLines'. -/
def fnTreeTextLinesCard : Claim7 := { stood := { row := fnTreeTextLinesRow, standIns := [], harness := (true, "485b7d68372ae37302158545a8556e507e38e0fc988fa2257c71473791ac9ce3"), looks := true }, kinds := [], alts := [], laidByText := true, laidKinds := [.data, .data, .data, .data, .pinned], laidTests := true, laidLooks := .later }
def FnTreeTextLinesCardSaid : Prop := Claim7.holds Tryz.pinned (.plain (OpenSpec.ofChange fnTreeTextLinesSpec)) fnTreeTextLinesCard

/-- THE TIED CARD OF 'laws.FnDiskText'. -/
def fnDiskTextCard : Claim7 := { stood := { row := fnDiskTextRow, standIns := [], harness := (true, "485b7d68372ae37302158545a8556e507e38e0fc988fa2257c71473791ac9ce3"), looks := true }, kinds := [], alts := [], laidByText := true, laidKinds := [.data, .data, .data, .data, .pinned], laidTests := true, laidLooks := .later }
def FnDiskTextCardSaid : Prop := Claim7.holds Tryz.pinned (.plain (OpenSpec.ofChange fnDiskTextSpec)) fnDiskTextCard

/-- THE TIED CARD OF 'laws.FnVolumeWriteOthers'. -/
def fnVolumeWriteOthersCard : Claim7 := { stood := { row := fnVolumeWriteOthersRow, standIns := [], harness := (true, "485b7d68372ae37302158545a8556e507e38e0fc988fa2257c71473791ac9ce3"), looks := true }, kinds := [], alts := [], laidByText := true, laidKinds := [.data, .pinned], laidTests := true, laidLooks := .later }
def FnVolumeWriteOthersCardSaid : Prop := Claim7.holds Tryz.pinned (.plain (OpenSpec.ofChange fnVolumeWriteOthersSpec)) fnVolumeWriteOthersCard

/-- THE TIED CARD OF 'laws.FnVolumeWriteTwice'. -/
def fnVolumeWriteTwiceCard : Claim7 := { stood := { row := fnVolumeWriteTwiceRow, standIns := [], harness := (true, "485b7d68372ae37302158545a8556e507e38e0fc988fa2257c71473791ac9ce3"), looks := true }, kinds := [], alts := [], laidByText := true, laidKinds := [.data, .pinned], laidTests := true, laidLooks := .later }
def FnVolumeWriteTwiceCardSaid : Prop := Claim7.holds Tryz.pinned (.plain (OpenSpec.ofChange fnVolumeWriteTwiceSpec)) fnVolumeWriteTwiceCard

/-- THE SECOND FORM's CARD OF 'laws.FnLast'. -/
def fnLastUptoCard : Claim7 := { stood := { row := fnLastUptoRow, standIns := [], harness := (true, "485b7d68372ae37302158545a8556e507e38e0fc988fa2257c71473791ac9ce3"), looks := true }, kinds := [], alts := [], laidByText := true, laidKinds := [.data, .pinned], laidTests := true, laidLooks := .later }
def FnLastUptoCardSaid : Prop := Claim7.holds Tryz.pinned (.plain (OpenSpec.upto fnLastSpec)) fnLastUptoCard

/-- THE SECOND FORM's CARD OF 'laws.FnOver'. -/
def fnOverUptoCard : Claim7 := { stood := { row := fnOverUptoRow, standIns := [], harness := (true, "485b7d68372ae37302158545a8556e507e38e0fc988fa2257c71473791ac9ce3"), looks := true }, kinds := [], alts := [], laidByText := true, laidKinds := [.data, .sentinel, .pinned], laidTests := true, laidLooks := .later }
def FnOverUptoCardSaid : Prop := Claim7.holds Tryz.pinned (.plain (OpenSpec.upto fnOverSpec)) fnOverUptoCard

/-- THE SECOND FORM's CARD OF 'laws.FnAllowLess'. -/
def fnAllowLessUptoCard : Claim7 := { stood := { row := fnAllowLessUptoRow, standIns := [], harness := (true, "485b7d68372ae37302158545a8556e507e38e0fc988fa2257c71473791ac9ce3"), looks := true }, kinds := [], alts := [], laidByText := true, laidKinds := [.data, .sentinel, .pinned], laidTests := true, laidLooks := .later }
def FnAllowLessUptoCardSaid : Prop := Claim7.holds Tryz.pinned (.plain (OpenSpec.upto fnAllowLessSpec)) fnAllowLessUptoCard

/-- THE SECOND FORM's CARD OF 'laws.FnTreeText'. -/
def fnTreeTextUptoCard : Claim7 := { stood := { row := fnTreeTextUptoRow, standIns := [], harness := (true, "485b7d68372ae37302158545a8556e507e38e0fc988fa2257c71473791ac9ce3"), looks := true }, kinds := [], alts := [], laidByText := true, laidKinds := [.data, .data, .data, .data, .pinned], laidTests := true, laidLooks := .later }
def FnTreeTextUptoCardSaid : Prop := Claim7.holds Tryz.pinned (.plain (OpenSpec.upto fnTreeTextSpec)) fnTreeTextUptoCard

/-- THE SECOND FORM's CARD OF 'laws.FnTreeTextLines'. -/
def fnTreeTextLinesUptoCard : Claim7 := { stood := { row := fnTreeTextLinesUptoRow, standIns := [], harness := (true, "485b7d68372ae37302158545a8556e507e38e0fc988fa2257c71473791ac9ce3"), looks := true }, kinds := [], alts := [], laidByText := true, laidKinds := [.data, .data, .data, .data, .pinned], laidTests := true, laidLooks := .later }
def FnTreeTextLinesUptoCardSaid : Prop := Claim7.holds Tryz.pinned (.plain (OpenSpec.upto fnTreeTextLinesSpec)) fnTreeTextLinesUptoCard

/-- THE SECOND FORM's CARD OF 'laws.FnDiskText'. -/
def fnDiskTextUptoCard : Claim7 := { stood := { row := fnDiskTextUptoRow, standIns := [], harness := (true, "485b7d68372ae37302158545a8556e507e38e0fc988fa2257c71473791ac9ce3"), looks := true }, kinds := [], alts := [], laidByText := true, laidKinds := [.data, .data, .data, .data, .pinned], laidTests := true, laidLooks := .later }
def FnDiskTextUptoCardSaid : Prop := Claim7.holds Tryz.pinned (.plain (OpenSpec.upto fnDiskTextSpec)) fnDiskTextUptoCard

/-- THE SECOND FORM's CARD OF 'laws.FnVolumeWriteOthers'. -/
def fnVolumeWriteOthersUptoCard : Claim7 := { stood := { row := fnVolumeWriteOthersUptoRow, standIns := [], harness := (true, "485b7d68372ae37302158545a8556e507e38e0fc988fa2257c71473791ac9ce3"), looks := true }, kinds := [], alts := [], laidByText := true, laidKinds := [.data, .pinned], laidTests := true, laidLooks := .later }
def FnVolumeWriteOthersUptoCardSaid : Prop := Claim7.holds Tryz.pinned (.plain (OpenSpec.upto fnVolumeWriteOthersSpec)) fnVolumeWriteOthersUptoCard

/-- THE SECOND FORM's CARD OF 'laws.FnVolumeWriteTwice'. -/
def fnVolumeWriteTwiceUptoCard : Claim7 := { stood := { row := fnVolumeWriteTwiceUptoRow, standIns := [], harness := (true, "485b7d68372ae37302158545a8556e507e38e0fc988fa2257c71473791ac9ce3"), looks := true }, kinds := [], alts := [], laidByText := true, laidKinds := [.data, .pinned], laidTests := true, laidLooks := .later }
def FnVolumeWriteTwiceUptoCardSaid : Prop := Claim7.holds Tryz.pinned (.plain (OpenSpec.upto fnVolumeWriteTwiceSpec)) fnVolumeWriteTwiceUptoCard
end Rows
end Go.Proofs.YtoljibhdakacjaaGreatDoor
