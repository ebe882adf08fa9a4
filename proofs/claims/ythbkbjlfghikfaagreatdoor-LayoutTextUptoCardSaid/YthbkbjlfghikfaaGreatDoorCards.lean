/-
  DERIVED. GIVEN WITH THE SEED: THE CARDS: each row of YthbkbjlfghikfaaGreatDoorRows.lean that lists a variable, with what it lists TIED to the program's text (the seventh form; the later family's looks); each row that meets fmt, with fmt's text TOLD by the authors' own Lean function (tested against real Go, not proved from fmt's source: count such statements apart). THE CARD IS WHAT COUNTS. Prove the row's statement (the work); the ties are given (YthbkbjlfghikfaaGreatDoorTie.lean); close each card by the builder's one call (the guide's Derived/Test/ToyasCard.lean, 'card_holds'). Laid BY PROGRAM, IN A SANDBOX (cutbox-door.mjs). By AI agents, Wed Nov 11 2026. No macro, syntax, notation, axiom, sorry.
-/
import Derived.Test.YthbkbjlfghikfaaGreatDoorRows
import GoSem.ClaimSeven
namespace Go.Proofs.YthbkbjlfghikfaaGreatDoor
namespace Rows

/-- THE TIED CARD OF 'plinthlaw02.LayoutFormat'. -/
def layoutFormatCard : Claim7 := { stood := { row := layoutFormatRow, standIns := [], harness := (true, "eae3f0f997a98dac8ce38df6b9ce6aef358677a9e3c9069a118d378c630bcf5a"), looks := true }, kinds := [], alts := [], laidByText := true, laidKinds := [.data, .data, .data, .data, .sentinel, .sentinel, .pinned], laidTests := true, laidLooks := .later }
def LayoutFormatCardSaid : Prop := Claim7.holds Tryz.pinned (.plain (OpenSpec.ofChange layoutFormatSpec)) layoutFormatCard

/-- THE TIED CARD OF 'plinthlaw02.LayoutText'. -/
def layoutTextCard : Claim7 := { stood := { row := layoutTextRow, standIns := [], harness := (true, "eae3f0f997a98dac8ce38df6b9ce6aef358677a9e3c9069a118d378c630bcf5a"), looks := true }, kinds := [], alts := [], laidByText := true, laidKinds := [.data, .data, .data, .data, .sentinel, .sentinel, .pinned], laidTests := true, laidLooks := .later }
def LayoutTextCardSaid : Prop := Claim7.holds Tryz.pinned (.plain (OpenSpec.ofChange layoutTextSpec)) layoutTextCard

/-- THE TIED CARD OF 'plinthlaw02.LayoutWide'. -/
def layoutWideCard : Claim7 := { stood := { row := layoutWideRow, standIns := [], harness := (true, "eae3f0f997a98dac8ce38df6b9ce6aef358677a9e3c9069a118d378c630bcf5a"), looks := true }, kinds := [], alts := [], laidByText := true, laidKinds := [.data, .data, .data, .data, .sentinel, .sentinel, .pinned], laidTests := true, laidLooks := .later }
def LayoutWideCardSaid : Prop := Claim7.holds Tryz.pinned (.plain (OpenSpec.ofChange layoutWideSpec)) layoutWideCard

/-- THE TIED CARD OF 'plinthlaw02.LayoutBack'. -/
def layoutBackCard : Claim7 := { stood := { row := layoutBackRow, standIns := [], harness := (true, "eae3f0f997a98dac8ce38df6b9ce6aef358677a9e3c9069a118d378c630bcf5a"), looks := true }, kinds := [], alts := [], laidByText := true, laidKinds := [.data, .data, .data, .data, .sentinel, .sentinel, .pinned], laidTests := true, laidLooks := .later }
def LayoutBackCardSaid : Prop := Claim7.holds Tryz.pinned (.plain (OpenSpec.ofChange layoutBackSpec)) layoutBackCard

/-- THE TIED CARD OF 'plinthlaw02.LayoutTwice'. -/
def layoutTwiceCard : Claim7 := { stood := { row := layoutTwiceRow, standIns := [], harness := (true, "eae3f0f997a98dac8ce38df6b9ce6aef358677a9e3c9069a118d378c630bcf5a"), looks := true }, kinds := [], alts := [], laidByText := true, laidKinds := [.data, .data, .data, .data, .sentinel, .sentinel, .pinned], laidTests := true, laidLooks := .later }
def LayoutTwiceCardSaid : Prop := Claim7.holds Tryz.pinned (.plain (OpenSpec.ofChange layoutTwiceSpec)) layoutTwiceCard

/-- THE TIED CARD OF 'plinthlaw02.LayoutTells'. -/
def layoutTellsCard : Claim7 := { stood := { row := layoutTellsRow, standIns := [], harness := (true, "eae3f0f997a98dac8ce38df6b9ce6aef358677a9e3c9069a118d378c630bcf5a"), looks := true }, kinds := [], alts := [], laidByText := true, laidKinds := [.data, .data, .data, .data, .sentinel, .sentinel, .pinned], laidTests := true, laidLooks := .later }
def LayoutTellsCardSaid : Prop := Claim7.holds Tryz.pinned (.plain (OpenSpec.ofChange layoutTellsSpec)) layoutTellsCard

/-- THE SECOND FORM's CARD OF 'plinthlaw02.LayoutFormat'. -/
def layoutFormatUptoCard : Claim7 := { stood := { row := layoutFormatUptoRow, standIns := [], harness := (true, "eae3f0f997a98dac8ce38df6b9ce6aef358677a9e3c9069a118d378c630bcf5a"), looks := true }, kinds := [], alts := [], laidByText := true, laidKinds := [.data, .data, .data, .data, .sentinel, .sentinel, .pinned], laidTests := true, laidLooks := .later }
def LayoutFormatUptoCardSaid : Prop := Claim7.holds Tryz.pinned (.plain (OpenSpec.upto layoutFormatSpec)) layoutFormatUptoCard

/-- THE SECOND FORM's CARD OF 'plinthlaw02.LayoutText'. -/
def layoutTextUptoCard : Claim7 := { stood := { row := layoutTextUptoRow, standIns := [], harness := (true, "eae3f0f997a98dac8ce38df6b9ce6aef358677a9e3c9069a118d378c630bcf5a"), looks := true }, kinds := [], alts := [], laidByText := true, laidKinds := [.data, .data, .data, .data, .sentinel, .sentinel, .pinned], laidTests := true, laidLooks := .later }
def LayoutTextUptoCardSaid : Prop := Claim7.holds Tryz.pinned (.plain (OpenSpec.upto layoutTextSpec)) layoutTextUptoCard

/-- THE SECOND FORM's CARD OF 'plinthlaw02.LayoutWide'. -/
def layoutWideUptoCard : Claim7 := { stood := { row := layoutWideUptoRow, standIns := [], harness := (true, "eae3f0f997a98dac8ce38df6b9ce6aef358677a9e3c9069a118d378c630bcf5a"), looks := true }, kinds := [], alts := [], laidByText := true, laidKinds := [.data, .data, .data, .data, .sentinel, .sentinel, .pinned], laidTests := true, laidLooks := .later }
def LayoutWideUptoCardSaid : Prop := Claim7.holds Tryz.pinned (.plain (OpenSpec.upto layoutWideSpec)) layoutWideUptoCard

/-- THE SECOND FORM's CARD OF 'plinthlaw02.LayoutBack'. -/
def layoutBackUptoCard : Claim7 := { stood := { row := layoutBackUptoRow, standIns := [], harness := (true, "eae3f0f997a98dac8ce38df6b9ce6aef358677a9e3c9069a118d378c630bcf5a"), looks := true }, kinds := [], alts := [], laidByText := true, laidKinds := [.data, .data, .data, .data, .sentinel, .sentinel, .pinned], laidTests := true, laidLooks := .later }
def LayoutBackUptoCardSaid : Prop := Claim7.holds Tryz.pinned (.plain (OpenSpec.upto layoutBackSpec)) layoutBackUptoCard

/-- THE SECOND FORM's CARD OF 'plinthlaw02.LayoutTwice'. -/
def layoutTwiceUptoCard : Claim7 := { stood := { row := layoutTwiceUptoRow, standIns := [], harness := (true, "eae3f0f997a98dac8ce38df6b9ce6aef358677a9e3c9069a118d378c630bcf5a"), looks := true }, kinds := [], alts := [], laidByText := true, laidKinds := [.data, .data, .data, .data, .sentinel, .sentinel, .pinned], laidTests := true, laidLooks := .later }
def LayoutTwiceUptoCardSaid : Prop := Claim7.holds Tryz.pinned (.plain (OpenSpec.upto layoutTwiceSpec)) layoutTwiceUptoCard

/-- THE SECOND FORM's CARD OF 'plinthlaw02.LayoutTells'. -/
def layoutTellsUptoCard : Claim7 := { stood := { row := layoutTellsUptoRow, standIns := [], harness := (true, "eae3f0f997a98dac8ce38df6b9ce6aef358677a9e3c9069a118d378c630bcf5a"), looks := true }, kinds := [], alts := [], laidByText := true, laidKinds := [.data, .data, .data, .data, .sentinel, .sentinel, .pinned], laidTests := true, laidLooks := .later }
def LayoutTellsUptoCardSaid : Prop := Claim7.holds Tryz.pinned (.plain (OpenSpec.upto layoutTellsSpec)) layoutTellsUptoCard
end Rows
end Go.Proofs.YthbkbjlfghikfaaGreatDoor
