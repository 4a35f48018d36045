/-
  DERIVED. GIVEN WITH THE SEED: THE CARDS: each row of YtdmffnbnnknklaaGreatDoorRows.lean that lists a variable, with what it lists TIED to the program's text (the seventh form; the later family's looks); each row that meets fmt, with fmt's text TOLD by the authors' own Lean function (tested against real Go, not proved from fmt's source: count such statements apart). THE CARD IS WHAT COUNTS. Prove the row's statement (the work); the ties are given (YtdmffnbnnknklaaGreatDoorTie.lean); close each card by the builder's one call (the guide's Derived/Test/ToyasCard.lean, 'card_holds'). Laid BY PROGRAM, IN A SANDBOX (cutbox-door.mjs). By AI agents, Wed Nov 11 2026. No macro, syntax, notation, axiom, sorry.
-/
import Derived.Test.YtdmffnbnnknklaaGreatDoorRows
import GoSem.ClaimSeven
namespace Go.Proofs.YtdmffnbnnknklaaGreatDoor
namespace Rows

/-- THE TIED CARD OF 'floodgatelaw20.FrameNames'. -/
def frameNamesCard : Claim7 := { stood := { row := frameNamesRow, standIns := [], harness := (true, "245dc03f3c780aee096b86fd6485221a52e61f6755b96c661c5da2d8f05fb7ef"), looks := true }, kinds := [], alts := [], laidByText := true, laidKinds := [.data, .pinned], laidTests := true, laidLooks := .later }
def FrameNamesCardSaid : Prop := Claim7.holds Tryz.pinned (.plain (OpenSpec.ofChange frameNamesSpec)) frameNamesCard

/-- THE SECOND FORM's CARD OF 'floodgatelaw20.FrameNames'. -/
def frameNamesUptoCard : Claim7 := { stood := { row := frameNamesUptoRow, standIns := [], harness := (true, "245dc03f3c780aee096b86fd6485221a52e61f6755b96c661c5da2d8f05fb7ef"), looks := true }, kinds := [], alts := [], laidByText := true, laidKinds := [.data, .pinned], laidTests := true, laidLooks := .later }
def FrameNamesUptoCardSaid : Prop := Claim7.holds Tryz.pinned (.plain (OpenSpec.upto frameNamesSpec)) frameNamesUptoCard
end Rows
end Go.Proofs.YtdmffnbnnknklaaGreatDoor
