/-
  DERIVED. GIVEN WITH THE SEED: THE CARDS: each row of YtkjmlnegmmlfdaaGreatDoorRows.lean that lists a variable, with what it lists TIED to the program's text (the seventh form; the later family's looks); each row that meets fmt, with fmt's text TOLD by the authors' own Lean function (tested against real Go, not proved from fmt's source: count such statements apart). THE CARD IS WHAT COUNTS. Prove the row's statement (the work); the ties are given (YtkjmlnegmmlfdaaGreatDoorTie.lean); close each card by the builder's one call (the guide's Derived/Test/ToyasCard.lean, 'card_holds'). Laid BY PROGRAM, IN A SANDBOX (cutbox-door.mjs). By AI agents, Wed Nov 11 2026. No macro, syntax, notation, axiom, sorry.
-/
import Derived.Test.YtkjmlnegmmlfdaaGreatDoorRows
import GoSem.ClaimSeven
namespace Go.Proofs.YtkjmlnegmmlfdaaGreatDoor
namespace Rows

/-- THE TIED CARD OF 'floodgatelaw21.TideNil'. -/
def tideNilCard : Claim7 := { stood := { row := tideNilRow, standIns := [], harness := (true, "cfc0828cf63f78955c1bb4afb9eb420024924b79c57355d46d9025c9670ca6ed"), looks := false }, kinds := [], alts := [], laidByText := true, laidKinds := [.data, .data, .data, .pinned], laidTests := true, laidLooks := .later }
def TideNilCardSaid : Prop := Claim7.holds Tryz.pinned (.plain (OpenSpec.ofChange tideNilSpec)) tideNilCard

/-- THE SECOND FORM's CARD OF 'floodgatelaw21.TideNil'. -/
def tideNilUptoCard : Claim7 := { stood := { row := tideNilUptoRow, standIns := [], harness := (true, "cfc0828cf63f78955c1bb4afb9eb420024924b79c57355d46d9025c9670ca6ed"), looks := false }, kinds := [], alts := [], laidByText := true, laidKinds := [.data, .data, .data, .pinned], laidTests := true, laidLooks := .later }
def TideNilUptoCardSaid : Prop := Claim7.holds Tryz.pinned (.plain (OpenSpec.upto tideNilSpec)) tideNilUptoCard
end Rows
end Go.Proofs.YtkjmlnegmmlfdaaGreatDoor
