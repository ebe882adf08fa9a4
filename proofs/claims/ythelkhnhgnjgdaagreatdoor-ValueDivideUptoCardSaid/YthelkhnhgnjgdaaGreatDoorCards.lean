/-
  DERIVED. GIVEN WITH THE SEED: THE CARDS: each row of YthelkhnhgnjgdaaGreatDoorRows.lean that lists a variable, with what it lists TIED to the program's text (the seventh form; the later family's looks); each row that meets fmt, with fmt's text TOLD by the authors' own Lean function (tested against real Go, not proved from fmt's source: count such statements apart). THE CARD IS WHAT COUNTS. Prove the row's statement (the work); the ties are given (YthelkhnhgnjgdaaGreatDoorTie.lean); close each card by the builder's one call (the guide's Derived/Test/ToyasCard.lean, 'card_holds'). Laid BY PROGRAM, IN A SANDBOX (cutbox-door.mjs). By AI agents, Wed Nov 11 2026. No macro, syntax, notation, axiom, sorry.
-/
import Derived.Test.YthelkhnhgnjgdaaGreatDoorRows
import GoSem.ClaimSeven
namespace Go.Proofs.YthelkhnhgnjgdaaGreatDoor
namespace Rows

/-- THE TIED CARD OF 'plinthlaw12.ValueDivide'. -/
def valueDivideCard : Claim7 := { stood := { row := valueDivideRow, standIns := [], harness := (true, "5a8233bb919a4153ca43521a38e3718c4d3b49781d893d31c81f33b40e4ffd64"), looks := true }, kinds := [], alts := [], laidByText := true, laidKinds := [.data, .listed, .data, .pinned], laidTests := true, laidLooks := .later }
def ValueDivideCardSaid : Prop := Claim7.holds Tryz.pinned (.plain (OpenSpec.ofChange valueDivideSpec)) valueDivideCard

/-- THE SECOND FORM's CARD OF 'plinthlaw12.ValueDivide'. -/
def valueDivideUptoCard : Claim7 := { stood := { row := valueDivideUptoRow, standIns := [], harness := (true, "5a8233bb919a4153ca43521a38e3718c4d3b49781d893d31c81f33b40e4ffd64"), looks := true }, kinds := [], alts := [], laidByText := true, laidKinds := [.data, .listed, .data, .pinned], laidTests := true, laidLooks := .later }
def ValueDivideUptoCardSaid : Prop := Claim7.holds Tryz.pinned (.plain (OpenSpec.upto valueDivideSpec)) valueDivideUptoCard
end Rows
end Go.Proofs.YthelkhnhgnjgdaaGreatDoor
