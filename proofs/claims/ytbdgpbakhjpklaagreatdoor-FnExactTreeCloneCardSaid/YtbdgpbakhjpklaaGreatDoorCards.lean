/-
  DERIVED. GIVEN WITH THE SEED: THE CARDS: each row of YtbdgpbakhjpklaaGreatDoorRows.lean that lists a variable, with what it lists TIED to the program's text (the seventh form; the later family's looks); each row that meets fmt, with fmt's text TOLD by the authors' own Lean function (tested against real Go, not proved from fmt's source: count such statements apart). THE CARD IS WHAT COUNTS. Prove the row's statement (the work); the ties are given (YtbdgpbakhjpklaaGreatDoorTie.lean); close each card by the builder's one call (the guide's Derived/Test/ToyasCard.lean, 'card_holds'). Laid BY PROGRAM, IN A SANDBOX (cutbox-door.mjs). By AI agents, Wed Nov 11 2026. No macro, syntax, notation, axiom, sorry.
-/
import Derived.Test.YtbdgpbakhjpklaaGreatDoorRows
import GoSem.ClaimSeven
namespace Go.Proofs.YtbdgpbakhjpklaaGreatDoor
namespace Rows

/-- THE TIED CARD OF 'laws.FnTreeCloneMany'. -/
def fnTreeCloneManyCard : Claim7 := { stood := { row := fnTreeCloneManyRow, standIns := [], harness := (true, "f6b603365b2bca886e254ca57c29fe3c2be736995d1a28b9943774ad261dc917"), looks := true }, kinds := [], alts := [], laidByText := true, laidKinds := [.data, .pinned], laidTests := true, laidLooks := .later }
def FnTreeCloneManyCardSaid : Prop := Claim7.holds Tryz.pinned (.plain (OpenSpec.ofChange fnTreeCloneManySpec)) fnTreeCloneManyCard

/-- THE TIED CARD OF 'laws.FnTreeMoveBack'. -/
def fnTreeMoveBackCard : Claim7 := { stood := { row := fnTreeMoveBackRow, standIns := [], harness := (true, "f6b603365b2bca886e254ca57c29fe3c2be736995d1a28b9943774ad261dc917"), looks := true }, kinds := [], alts := [], laidByText := true, laidKinds := [.data, .pinned], laidTests := true, laidLooks := .later }
def FnTreeMoveBackCardSaid : Prop := Claim7.holds Tryz.pinned (.plain (OpenSpec.ofChange fnTreeMoveBackSpec)) fnTreeMoveBackCard

/-- THE TIED CARD OF 'laws.FnTreeMoveNot'. -/
def fnTreeMoveNotCard : Claim7 := { stood := { row := fnTreeMoveNotRow, standIns := [], harness := (true, "f6b603365b2bca886e254ca57c29fe3c2be736995d1a28b9943774ad261dc917"), looks := true }, kinds := [], alts := [], laidByText := true, laidKinds := [.data, .pinned], laidTests := true, laidLooks := .later }
def FnTreeMoveNotCardSaid : Prop := Claim7.holds Tryz.pinned (.plain (OpenSpec.ofChange fnTreeMoveNotSpec)) fnTreeMoveNotCard

/-- THE TIED CARD OF 'laws.FnTreeClone'. -/
def fnTreeCloneCard : Claim7 := { stood := { row := fnTreeCloneRow, standIns := [], harness := (true, "f6b603365b2bca886e254ca57c29fe3c2be736995d1a28b9943774ad261dc917"), looks := true }, kinds := [], alts := [], laidByText := true, laidKinds := [.data, .pinned], laidTests := true, laidLooks := .later }
def FnTreeCloneCardSaid : Prop := Claim7.holds Tryz.pinned (.plain (OpenSpec.ofChange fnTreeCloneSpec)) fnTreeCloneCard

/-- THE TIED CARD OF 'laws.FnTreeCloneMove'. -/
def fnTreeCloneMoveCard : Claim7 := { stood := { row := fnTreeCloneMoveRow, standIns := [], harness := (true, "f6b603365b2bca886e254ca57c29fe3c2be736995d1a28b9943774ad261dc917"), looks := true }, kinds := [], alts := [], laidByText := true, laidKinds := [.data, .pinned], laidTests := true, laidLooks := .later }
def FnTreeCloneMoveCardSaid : Prop := Claim7.holds Tryz.pinned (.plain (OpenSpec.ofChange fnTreeCloneMoveSpec)) fnTreeCloneMoveCard

/-- THE TIED CARD OF 'laws.FnTreeMove'. -/
def fnTreeMoveCard : Claim7 := { stood := { row := fnTreeMoveRow, standIns := [], harness := (true, "f6b603365b2bca886e254ca57c29fe3c2be736995d1a28b9943774ad261dc917"), looks := true }, kinds := [], alts := [], laidByText := true, laidKinds := [.data, .pinned], laidTests := true, laidLooks := .later }
def FnTreeMoveCardSaid : Prop := Claim7.holds Tryz.pinned (.plain (OpenSpec.ofChange fnTreeMoveSpec)) fnTreeMoveCard

/-- THE TIED CARD OF 'laws.FnExactTreeClone'. -/
def fnExactTreeCloneCard : Claim7 := { stood := { row := fnExactTreeCloneRow, standIns := [], harness := (true, "f6b603365b2bca886e254ca57c29fe3c2be736995d1a28b9943774ad261dc917"), looks := true }, kinds := [], alts := [], laidByText := true, laidKinds := [.data, .pinned], laidTests := true, laidLooks := .later }
def FnExactTreeCloneCardSaid : Prop := Claim7.holds Tryz.pinned (.plain (OpenSpec.ofChange fnExactTreeCloneSpec)) fnExactTreeCloneCard

/-- THE TIED CARD OF 'laws.FnChanges'. -/
def fnChangesCard : Claim7 := { stood := { row := fnChangesRow, standIns := [], harness := (true, "f6b603365b2bca886e254ca57c29fe3c2be736995d1a28b9943774ad261dc917"), looks := true }, kinds := [], alts := [], laidByText := true, laidKinds := [.data, .pinned], laidTests := true, laidLooks := .later }
def FnChangesCardSaid : Prop := Claim7.holds Tryz.pinned (.plain (OpenSpec.ofChange fnChangesSpec)) fnChangesCard

/-- THE TIED CARD OF 'laws.FnExactTreeMove'. -/
def fnExactTreeMoveCard : Claim7 := { stood := { row := fnExactTreeMoveRow, standIns := [], harness := (true, "f6b603365b2bca886e254ca57c29fe3c2be736995d1a28b9943774ad261dc917"), looks := true }, kinds := [], alts := [], laidByText := true, laidKinds := [.data, .pinned], laidTests := true, laidLooks := .later }
def FnExactTreeMoveCardSaid : Prop := Claim7.holds Tryz.pinned (.plain (OpenSpec.ofChange fnExactTreeMoveSpec)) fnExactTreeMoveCard

/-- THE TIED CARD OF 'laws.FnChangesRun'. -/
def fnChangesRunCard : Claim7 := { stood := { row := fnChangesRunRow, standIns := [], harness := (true, "f6b603365b2bca886e254ca57c29fe3c2be736995d1a28b9943774ad261dc917"), looks := true }, kinds := [], alts := [], laidByText := true, laidKinds := [.data, .pinned], laidTests := true, laidLooks := .later }
def FnChangesRunCardSaid : Prop := Claim7.holds Tryz.pinned (.plain (OpenSpec.ofChange fnChangesRunSpec)) fnChangesRunCard

/-- THE TIED CARD OF 'laws.FnExactChangesRun'. -/
def fnExactChangesRunCard : Claim7 := { stood := { row := fnExactChangesRunRow, standIns := [], harness := (true, "f6b603365b2bca886e254ca57c29fe3c2be736995d1a28b9943774ad261dc917"), looks := true }, kinds := [], alts := [], laidByText := true, laidKinds := [.data, .pinned], laidTests := true, laidLooks := .later }
def FnExactChangesRunCardSaid : Prop := Claim7.holds Tryz.pinned (.plain (OpenSpec.ofChange fnExactChangesRunSpec)) fnExactChangesRunCard

/-- THE SECOND FORM's CARD OF 'laws.FnTreeCloneMany'. -/
def fnTreeCloneManyUptoCard : Claim7 := { stood := { row := fnTreeCloneManyUptoRow, standIns := [], harness := (true, "f6b603365b2bca886e254ca57c29fe3c2be736995d1a28b9943774ad261dc917"), looks := true }, kinds := [], alts := [], laidByText := true, laidKinds := [.data, .pinned], laidTests := true, laidLooks := .later }
def FnTreeCloneManyUptoCardSaid : Prop := Claim7.holds Tryz.pinned (.plain (OpenSpec.upto fnTreeCloneManySpec)) fnTreeCloneManyUptoCard

/-- THE SECOND FORM's CARD OF 'laws.FnTreeMoveBack'. -/
def fnTreeMoveBackUptoCard : Claim7 := { stood := { row := fnTreeMoveBackUptoRow, standIns := [], harness := (true, "f6b603365b2bca886e254ca57c29fe3c2be736995d1a28b9943774ad261dc917"), looks := true }, kinds := [], alts := [], laidByText := true, laidKinds := [.data, .pinned], laidTests := true, laidLooks := .later }
def FnTreeMoveBackUptoCardSaid : Prop := Claim7.holds Tryz.pinned (.plain (OpenSpec.upto fnTreeMoveBackSpec)) fnTreeMoveBackUptoCard

/-- THE SECOND FORM's CARD OF 'laws.FnTreeMoveNot'. -/
def fnTreeMoveNotUptoCard : Claim7 := { stood := { row := fnTreeMoveNotUptoRow, standIns := [], harness := (true, "f6b603365b2bca886e254ca57c29fe3c2be736995d1a28b9943774ad261dc917"), looks := true }, kinds := [], alts := [], laidByText := true, laidKinds := [.data, .pinned], laidTests := true, laidLooks := .later }
def FnTreeMoveNotUptoCardSaid : Prop := Claim7.holds Tryz.pinned (.plain (OpenSpec.upto fnTreeMoveNotSpec)) fnTreeMoveNotUptoCard

/-- THE SECOND FORM's CARD OF 'laws.FnTreeClone'. -/
def fnTreeCloneUptoCard : Claim7 := { stood := { row := fnTreeCloneUptoRow, standIns := [], harness := (true, "f6b603365b2bca886e254ca57c29fe3c2be736995d1a28b9943774ad261dc917"), looks := true }, kinds := [], alts := [], laidByText := true, laidKinds := [.data, .pinned], laidTests := true, laidLooks := .later }
def FnTreeCloneUptoCardSaid : Prop := Claim7.holds Tryz.pinned (.plain (OpenSpec.upto fnTreeCloneSpec)) fnTreeCloneUptoCard

/-- THE SECOND FORM's CARD OF 'laws.FnTreeCloneMove'. -/
def fnTreeCloneMoveUptoCard : Claim7 := { stood := { row := fnTreeCloneMoveUptoRow, standIns := [], harness := (true, "f6b603365b2bca886e254ca57c29fe3c2be736995d1a28b9943774ad261dc917"), looks := true }, kinds := [], alts := [], laidByText := true, laidKinds := [.data, .pinned], laidTests := true, laidLooks := .later }
def FnTreeCloneMoveUptoCardSaid : Prop := Claim7.holds Tryz.pinned (.plain (OpenSpec.upto fnTreeCloneMoveSpec)) fnTreeCloneMoveUptoCard

/-- THE SECOND FORM's CARD OF 'laws.FnTreeMove'. -/
def fnTreeMoveUptoCard : Claim7 := { stood := { row := fnTreeMoveUptoRow, standIns := [], harness := (true, "f6b603365b2bca886e254ca57c29fe3c2be736995d1a28b9943774ad261dc917"), looks := true }, kinds := [], alts := [], laidByText := true, laidKinds := [.data, .pinned], laidTests := true, laidLooks := .later }
def FnTreeMoveUptoCardSaid : Prop := Claim7.holds Tryz.pinned (.plain (OpenSpec.upto fnTreeMoveSpec)) fnTreeMoveUptoCard

/-- THE SECOND FORM's CARD OF 'laws.FnExactTreeClone'. -/
def fnExactTreeCloneUptoCard : Claim7 := { stood := { row := fnExactTreeCloneUptoRow, standIns := [], harness := (true, "f6b603365b2bca886e254ca57c29fe3c2be736995d1a28b9943774ad261dc917"), looks := true }, kinds := [], alts := [], laidByText := true, laidKinds := [.data, .pinned], laidTests := true, laidLooks := .later }
def FnExactTreeCloneUptoCardSaid : Prop := Claim7.holds Tryz.pinned (.plain (OpenSpec.upto fnExactTreeCloneSpec)) fnExactTreeCloneUptoCard

/-- THE SECOND FORM's CARD OF 'laws.FnChanges'. -/
def fnChangesUptoCard : Claim7 := { stood := { row := fnChangesUptoRow, standIns := [], harness := (true, "f6b603365b2bca886e254ca57c29fe3c2be736995d1a28b9943774ad261dc917"), looks := true }, kinds := [], alts := [], laidByText := true, laidKinds := [.data, .pinned], laidTests := true, laidLooks := .later }
def FnChangesUptoCardSaid : Prop := Claim7.holds Tryz.pinned (.plain (OpenSpec.upto fnChangesSpec)) fnChangesUptoCard

/-- THE SECOND FORM's CARD OF 'laws.FnExactTreeMove'. -/
def fnExactTreeMoveUptoCard : Claim7 := { stood := { row := fnExactTreeMoveUptoRow, standIns := [], harness := (true, "f6b603365b2bca886e254ca57c29fe3c2be736995d1a28b9943774ad261dc917"), looks := true }, kinds := [], alts := [], laidByText := true, laidKinds := [.data, .pinned], laidTests := true, laidLooks := .later }
def FnExactTreeMoveUptoCardSaid : Prop := Claim7.holds Tryz.pinned (.plain (OpenSpec.upto fnExactTreeMoveSpec)) fnExactTreeMoveUptoCard

/-- THE SECOND FORM's CARD OF 'laws.FnChangesRun'. -/
def fnChangesRunUptoCard : Claim7 := { stood := { row := fnChangesRunUptoRow, standIns := [], harness := (true, "f6b603365b2bca886e254ca57c29fe3c2be736995d1a28b9943774ad261dc917"), looks := true }, kinds := [], alts := [], laidByText := true, laidKinds := [.data, .pinned], laidTests := true, laidLooks := .later }
def FnChangesRunUptoCardSaid : Prop := Claim7.holds Tryz.pinned (.plain (OpenSpec.upto fnChangesRunSpec)) fnChangesRunUptoCard

/-- THE SECOND FORM's CARD OF 'laws.FnExactChangesRun'. -/
def fnExactChangesRunUptoCard : Claim7 := { stood := { row := fnExactChangesRunUptoRow, standIns := [], harness := (true, "f6b603365b2bca886e254ca57c29fe3c2be736995d1a28b9943774ad261dc917"), looks := true }, kinds := [], alts := [], laidByText := true, laidKinds := [.data, .pinned], laidTests := true, laidLooks := .later }
def FnExactChangesRunUptoCardSaid : Prop := Claim7.holds Tryz.pinned (.plain (OpenSpec.upto fnExactChangesRunSpec)) fnExactChangesRunUptoCard
end Rows
end Go.Proofs.YtbdgpbakhjpklaaGreatDoor
