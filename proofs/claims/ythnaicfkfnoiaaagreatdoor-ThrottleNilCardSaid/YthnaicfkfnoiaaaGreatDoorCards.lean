/-
  DERIVED. GIVEN WITH THE SEED: THE CARDS: each row of YthnaicfkfnoiaaaGreatDoorRows.lean that lists a variable, with what it lists TIED to the program's text (the seventh form; the later family's looks); each row that meets fmt, with fmt's text TOLD by the authors' own Lean function (tested against real Go, not proved from fmt's source: count such statements apart). THE CARD IS WHAT COUNTS. Prove the row's statement (the work); the ties are given (YthnaicfkfnoiaaaGreatDoorTie.lean); close each card by the builder's one call (the guide's Derived/Test/ToyasCard.lean, 'card_holds'). Laid BY PROGRAM, IN A SANDBOX (cutbox-door.mjs). By AI agents, Wed Nov 11 2026. No macro, syntax, notation, axiom, sorry.
-/
import Derived.Test.YthnaicfkfnoiaaaGreatDoorRows
import GoSem.ClaimSeven
namespace Go.Proofs.YthnaicfkfnoiaaaGreatDoor
namespace Rows

/-- THE TIED CARD OF 'floodgatelaw18.ThrottleNil'. -/
def throttleNilCard : Claim7 := { stood := { row := throttleNilRow, standIns := [], harness := (true, "e76b8d6511c6cb88c11efa7acf7b3316c6a8c303b7b8a9e3dc30eac24aec329b"), looks := false }, kinds := [], alts := [], laidByText := true, laidKinds := [.data, .data, .data, .pinned], laidTests := true, laidLooks := .later }
def ThrottleNilCardSaid : Prop := Claim7.holds Tryz.pinned (.plain (OpenSpec.ofChange throttleNilSpec)) throttleNilCard

/-- THE SECOND FORM's CARD OF 'floodgatelaw18.ThrottleNil'. -/
def throttleNilUptoCard : Claim7 := { stood := { row := throttleNilUptoRow, standIns := [], harness := (true, "e76b8d6511c6cb88c11efa7acf7b3316c6a8c303b7b8a9e3dc30eac24aec329b"), looks := false }, kinds := [], alts := [], laidByText := true, laidKinds := [.data, .data, .data, .pinned], laidTests := true, laidLooks := .later }
def ThrottleNilUptoCardSaid : Prop := Claim7.holds Tryz.pinned (.plain (OpenSpec.upto throttleNilSpec)) throttleNilUptoCard
end Rows
end Go.Proofs.YthnaicfkfnoiaaaGreatDoor
