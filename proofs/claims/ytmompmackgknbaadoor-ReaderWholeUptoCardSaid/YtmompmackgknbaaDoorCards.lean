/-
  DERIVED. GIVEN WITH THE SEED: THE CARDS: each row of YtmompmackgknbaaDoorRows.lean that lists a variable, with what it lists TIED to the program's text (the seventh form; the later family's looks); each row that meets fmt, with fmt's text TOLD by the authors' own Lean function (tested against real Go, not proved from fmt's source: count such statements apart). THE CARD IS WHAT COUNTS. Prove the row's statement (the work); the ties are given (YtmompmackgknbaaDoorTie.lean); close each card by the builder's one call (the guide's Derived/Test/ToyasCard.lean, 'card_holds'). Laid BY PROGRAM, IN A SANDBOX (cutbox-door.mjs). By AI agents, Wed Nov 11 2026. No macro, syntax, notation, axiom, sorry.
-/
import Derived.Test.YtmompmackgknbaaDoorRows
import GoSem.ClaimSeven
namespace Go.Proofs.YtmompmackgknbaaDoor
namespace Rows

/-- THE TIED CARD OF 'plinthlaw34.LinearTerm'. -/
def linearTermCard : Claim7 := { stood := { row := linearTermRow, standIns := [], harness := (true, "22f3a1bc93e51c9bf7ac6a318cbb5ed19c2019a7a139ba1140225cc6653b3b16"), looks := true }, kinds := [], alts := [], laidByText := true, laidKinds := [.data, .pinned], laidTests := true, laidLooks := .later }
def LinearTermCardSaid : Prop := Claim7.holds Tryd.pinned (.plain (OpenSpec.ofChange linearTermSpec)) linearTermCard

/-- THE TIED CARD OF 'plinthlaw34.LinearSums'. -/
def linearSumsCard : Claim7 := { stood := { row := linearSumsRow, standIns := [], harness := (true, "22f3a1bc93e51c9bf7ac6a318cbb5ed19c2019a7a139ba1140225cc6653b3b16"), looks := true }, kinds := [], alts := [], laidByText := true, laidKinds := [.data, .pinned], laidTests := true, laidLooks := .later }
def LinearSumsCardSaid : Prop := Claim7.holds Tryd.pinned (.plain (OpenSpec.ofChange linearSumsSpec)) linearSumsCard

/-- THE TIED CARD OF 'plinthlaw01.ReaderOrder'. -/
def readerOrderCard : Claim7 := { stood := { row := readerOrderRow, standIns := [], harness := (true, "22f3a1bc93e51c9bf7ac6a318cbb5ed19c2019a7a139ba1140225cc6653b3b16"), looks := true }, kinds := [], alts := [], laidByText := true, laidKinds := [.data, .data, .data, .data, .sentinel, .sentinel, .pinned], laidTests := true, laidLooks := .later }
def ReaderOrderCardSaid : Prop := Claim7.holds Tryd.pinned (.plain (OpenSpec.ofChange readerOrderSpec)) readerOrderCard

/-- THE TIED CARD OF 'plinthlaw01.ReaderWhole'. -/
def readerWholeCard : Claim7 := { stood := { row := readerWholeRow, standIns := [], harness := (true, "22f3a1bc93e51c9bf7ac6a318cbb5ed19c2019a7a139ba1140225cc6653b3b16"), looks := true }, kinds := [], alts := [], laidByText := true, laidKinds := [.data, .data, .data, .data, .sentinel, .sentinel, .pinned], laidTests := true, laidLooks := .later }
def ReaderWholeCardSaid : Prop := Claim7.holds Tryd.pinned (.plain (OpenSpec.ofChange readerWholeSpec)) readerWholeCard

/-- THE SECOND FORM's CARD OF 'plinthlaw34.LinearTerm'. -/
def linearTermUptoCard : Claim7 := { stood := { row := linearTermUptoRow, standIns := [], harness := (true, "22f3a1bc93e51c9bf7ac6a318cbb5ed19c2019a7a139ba1140225cc6653b3b16"), looks := true }, kinds := [], alts := [], laidByText := true, laidKinds := [.data, .pinned], laidTests := true, laidLooks := .later }
def LinearTermUptoCardSaid : Prop := Claim7.holds Tryd.pinned (.plain (OpenSpec.upto linearTermSpec)) linearTermUptoCard

/-- THE SECOND FORM's CARD OF 'plinthlaw34.LinearSums'. -/
def linearSumsUptoCard : Claim7 := { stood := { row := linearSumsUptoRow, standIns := [], harness := (true, "22f3a1bc93e51c9bf7ac6a318cbb5ed19c2019a7a139ba1140225cc6653b3b16"), looks := true }, kinds := [], alts := [], laidByText := true, laidKinds := [.data, .pinned], laidTests := true, laidLooks := .later }
def LinearSumsUptoCardSaid : Prop := Claim7.holds Tryd.pinned (.plain (OpenSpec.upto linearSumsSpec)) linearSumsUptoCard

/-- THE SECOND FORM's CARD OF 'plinthlaw01.ReaderOrder'. -/
def readerOrderUptoCard : Claim7 := { stood := { row := readerOrderUptoRow, standIns := [], harness := (true, "22f3a1bc93e51c9bf7ac6a318cbb5ed19c2019a7a139ba1140225cc6653b3b16"), looks := true }, kinds := [], alts := [], laidByText := true, laidKinds := [.data, .data, .data, .data, .sentinel, .sentinel, .pinned], laidTests := true, laidLooks := .later }
def ReaderOrderUptoCardSaid : Prop := Claim7.holds Tryd.pinned (.plain (OpenSpec.upto readerOrderSpec)) readerOrderUptoCard

/-- THE SECOND FORM's CARD OF 'plinthlaw01.ReaderWhole'. -/
def readerWholeUptoCard : Claim7 := { stood := { row := readerWholeUptoRow, standIns := [], harness := (true, "22f3a1bc93e51c9bf7ac6a318cbb5ed19c2019a7a139ba1140225cc6653b3b16"), looks := true }, kinds := [], alts := [], laidByText := true, laidKinds := [.data, .data, .data, .data, .sentinel, .sentinel, .pinned], laidTests := true, laidLooks := .later }
def ReaderWholeUptoCardSaid : Prop := Claim7.holds Tryd.pinned (.plain (OpenSpec.upto readerWholeSpec)) readerWholeUptoCard
end Rows
end Go.Proofs.YtmompmackgknbaaDoor
