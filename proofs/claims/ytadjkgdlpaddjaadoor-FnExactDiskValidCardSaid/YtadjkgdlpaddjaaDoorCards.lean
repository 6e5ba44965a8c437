/-
  DERIVED. GIVEN WITH THE SEED: THE CARDS: each row of YtadjkgdlpaddjaaDoorRows.lean that lists a variable, with what it lists TIED to the program's text (the seventh form; the later family's looks); each row that meets fmt, with fmt's text TOLD by the authors' own Lean function (tested against real Go, not proved from fmt's source: count such statements apart). THE CARD IS WHAT COUNTS. Prove the row's statement (the work); the ties are given (YtadjkgdlpaddjaaDoorTie.lean); close each card by the builder's one call (the guide's Derived/Test/ToyasCard.lean, 'card_holds'). Laid BY PROGRAM, IN A SANDBOX (cutbox-door.mjs). By AI agents, Wed Nov 11 2026. No macro, syntax, notation, axiom, sorry.
-/
import Derived.Test.YtadjkgdlpaddjaaDoorRows
import GoSem.ClaimSeven
namespace Go.Proofs.YtadjkgdlpaddjaaDoor
namespace Rows

/-- THE TIED CARD OF 'laws.FnExactDiskValid'. -/
def fnExactDiskValidCard : Claim7 := { stood := { row := fnExactDiskValidRow, standIns := [], harness := (true, "f14815f2ec35727a71a0d734ef6f3ecbace0b3f5b13bb0cf06a5765f7781b9ce"), looks := false }, kinds := [], alts := [], laidByText := true, laidKinds := [.data, .pinned], laidTests := true, laidLooks := .later }
def FnExactDiskValidCardSaid : Prop := Claim7.holds Tryd.pinned (.plain (OpenSpec.ofChange fnExactDiskValidSpec)) fnExactDiskValidCard

/-- THE SECOND FORM's CARD OF 'laws.FnExactDiskValid'. -/
def fnExactDiskValidUptoCard : Claim7 := { stood := { row := fnExactDiskValidUptoRow, standIns := [], harness := (true, "f14815f2ec35727a71a0d734ef6f3ecbace0b3f5b13bb0cf06a5765f7781b9ce"), looks := false }, kinds := [], alts := [], laidByText := true, laidKinds := [.data, .pinned], laidTests := true, laidLooks := .later }
def FnExactDiskValidUptoCardSaid : Prop := Claim7.holds Tryd.pinned (.plain (OpenSpec.upto fnExactDiskValidSpec)) fnExactDiskValidUptoCard
end Rows
end Go.Proofs.YtadjkgdlpaddjaaDoor
