/-
  DERIVED. GIVEN WITH THE SEED: THE CARDS: each row of YtfpkllihfcgmaaaDoorRows.lean that lists a variable, with what it lists TIED to the program's text (the seventh form; the later family's looks); each row that meets fmt, with fmt's text TOLD by the authors' own Lean function (tested against real Go, not proved from fmt's source: count such statements apart). THE CARD IS WHAT COUNTS. Prove the row's statement (the work); the ties are given (YtfpkllihfcgmaaaDoorTie.lean); close each card by the builder's one call (the guide's Derived/Test/ToyasCard.lean, 'card_holds'). Laid BY PROGRAM, IN A SANDBOX (cutbox-door.mjs). By AI agents, Wed Nov 11 2026. No macro, syntax, notation, axiom, sorry.
-/
import Derived.Test.YtfpkllihfcgmaaaDoorRows
import GoSem.ClaimSeven
namespace Go.Proofs.YtfpkllihfcgmaaaDoor
namespace Rows

/-- THE TIED CARD OF 'laws.FnChangesBack'. -/
def fnChangesBackCard : Claim7 := { stood := { row := fnChangesBackRow, standIns := [], harness := (true, "bd3577b423a0d88c5dff4dfefcef76109759724bb7801a753256031912b6824c"), looks := true }, kinds := [], alts := [], laidByText := true, laidKinds := [.data, .pinned], laidTests := true, laidLooks := .later }
def FnChangesBackCardSaid : Prop := Claim7.holds Tryd.pinned (.plain (OpenSpec.ofChange fnChangesBackSpec)) fnChangesBackCard

/-- THE TIED CARD OF 'laws.FnChangesNew'. -/
def fnChangesNewCard : Claim7 := { stood := { row := fnChangesNewRow, standIns := [], harness := (true, "bd3577b423a0d88c5dff4dfefcef76109759724bb7801a753256031912b6824c"), looks := true }, kinds := [], alts := [], laidByText := true, laidKinds := [.data, .pinned], laidTests := true, laidLooks := .later }
def FnChangesNewCardSaid : Prop := Claim7.holds Tryd.pinned (.plain (OpenSpec.ofChange fnChangesNewSpec)) fnChangesNewCard

/-- THE TIED CARD OF 'laws.FnChangesNone'. -/
def fnChangesNoneCard : Claim7 := { stood := { row := fnChangesNoneRow, standIns := [], harness := (true, "bd3577b423a0d88c5dff4dfefcef76109759724bb7801a753256031912b6824c"), looks := true }, kinds := [], alts := [], laidByText := true, laidKinds := [.data, .pinned], laidTests := true, laidLooks := .later }
def FnChangesNoneCardSaid : Prop := Claim7.holds Tryd.pinned (.plain (OpenSpec.ofChange fnChangesNoneSpec)) fnChangesNoneCard

/-- THE TIED CARD OF 'laws.FnChangesKinds'. -/
def fnChangesKindsCard : Claim7 := { stood := { row := fnChangesKindsRow, standIns := [], harness := (true, "bd3577b423a0d88c5dff4dfefcef76109759724bb7801a753256031912b6824c"), looks := true }, kinds := [], alts := [], laidByText := true, laidKinds := [.data, .pinned], laidTests := true, laidLooks := .later }
def FnChangesKindsCardSaid : Prop := Claim7.holds Tryd.pinned (.plain (OpenSpec.ofChange fnChangesKindsSpec)) fnChangesKindsCard

/-- THE TIED CARD OF 'laws.FnExactChangesOf'. -/
def fnExactChangesOfCard : Claim7 := { stood := { row := fnExactChangesOfRow, standIns := [], harness := (true, "bd3577b423a0d88c5dff4dfefcef76109759724bb7801a753256031912b6824c"), looks := true }, kinds := [], alts := [], laidByText := true, laidKinds := [.data, .pinned], laidTests := true, laidLooks := .later }
def FnExactChangesOfCardSaid : Prop := Claim7.holds Tryd.pinned (.plain (OpenSpec.ofChange fnExactChangesOfSpec)) fnExactChangesOfCard

/-- THE SECOND FORM's CARD OF 'laws.FnChangesBack'. -/
def fnChangesBackUptoCard : Claim7 := { stood := { row := fnChangesBackUptoRow, standIns := [], harness := (true, "bd3577b423a0d88c5dff4dfefcef76109759724bb7801a753256031912b6824c"), looks := true }, kinds := [], alts := [], laidByText := true, laidKinds := [.data, .pinned], laidTests := true, laidLooks := .later }
def FnChangesBackUptoCardSaid : Prop := Claim7.holds Tryd.pinned (.plain (OpenSpec.upto fnChangesBackSpec)) fnChangesBackUptoCard

/-- THE SECOND FORM's CARD OF 'laws.FnChangesNew'. -/
def fnChangesNewUptoCard : Claim7 := { stood := { row := fnChangesNewUptoRow, standIns := [], harness := (true, "bd3577b423a0d88c5dff4dfefcef76109759724bb7801a753256031912b6824c"), looks := true }, kinds := [], alts := [], laidByText := true, laidKinds := [.data, .pinned], laidTests := true, laidLooks := .later }
def FnChangesNewUptoCardSaid : Prop := Claim7.holds Tryd.pinned (.plain (OpenSpec.upto fnChangesNewSpec)) fnChangesNewUptoCard

/-- THE SECOND FORM's CARD OF 'laws.FnChangesNone'. -/
def fnChangesNoneUptoCard : Claim7 := { stood := { row := fnChangesNoneUptoRow, standIns := [], harness := (true, "bd3577b423a0d88c5dff4dfefcef76109759724bb7801a753256031912b6824c"), looks := true }, kinds := [], alts := [], laidByText := true, laidKinds := [.data, .pinned], laidTests := true, laidLooks := .later }
def FnChangesNoneUptoCardSaid : Prop := Claim7.holds Tryd.pinned (.plain (OpenSpec.upto fnChangesNoneSpec)) fnChangesNoneUptoCard

/-- THE SECOND FORM's CARD OF 'laws.FnChangesKinds'. -/
def fnChangesKindsUptoCard : Claim7 := { stood := { row := fnChangesKindsUptoRow, standIns := [], harness := (true, "bd3577b423a0d88c5dff4dfefcef76109759724bb7801a753256031912b6824c"), looks := true }, kinds := [], alts := [], laidByText := true, laidKinds := [.data, .pinned], laidTests := true, laidLooks := .later }
def FnChangesKindsUptoCardSaid : Prop := Claim7.holds Tryd.pinned (.plain (OpenSpec.upto fnChangesKindsSpec)) fnChangesKindsUptoCard

/-- THE SECOND FORM's CARD OF 'laws.FnExactChangesOf'. -/
def fnExactChangesOfUptoCard : Claim7 := { stood := { row := fnExactChangesOfUptoRow, standIns := [], harness := (true, "bd3577b423a0d88c5dff4dfefcef76109759724bb7801a753256031912b6824c"), looks := true }, kinds := [], alts := [], laidByText := true, laidKinds := [.data, .pinned], laidTests := true, laidLooks := .later }
def FnExactChangesOfUptoCardSaid : Prop := Claim7.holds Tryd.pinned (.plain (OpenSpec.upto fnExactChangesOfSpec)) fnExactChangesOfUptoCard
end Rows
end Go.Proofs.YtfpkllihfcgmaaaDoor
