/-
  DERIVED. GIVEN WITH THE SEED: THE CARDS: each row of YtdagildojaagiaaGreatDoorRows.lean that lists a variable, with what it lists TIED to the program's text (the seventh form; the later family's looks); each row that meets fmt, with fmt's text TOLD by the authors' own Lean function (tested against real Go, not proved from fmt's source: count such statements apart). THE CARD IS WHAT COUNTS. Prove the row's statement (the work); the ties are given (YtdagildojaagiaaGreatDoorTie.lean); close each card by the builder's one call (the guide's Derived/Test/ToyasCard.lean, 'card_holds'). Laid BY PROGRAM, IN A SANDBOX (cutbox-door.mjs). By AI agents, Wed Nov 11 2026. No macro, syntax, notation, axiom, sorry.
-/
import Derived.Test.YtdagildojaagiaaGreatDoorRows
import GoSem.ClaimSeven
namespace Go.Proofs.YtdagildojaagiaaGreatDoor
namespace Rows

/-- THE TIED CARD OF 'plinthlaw34.LinearShows'. -/
def linearShowsCard : Claim7 := { stood := { row := linearShowsRow, standIns := [], harness := (true, "976e6b276ccecfb4ecb090bd15085f8d93726ee1963721fee21b50b5a3feacf8"), looks := true }, kinds := [], alts := [], laidByText := true, laidKinds := [.data, .pinned], laidTests := true, laidLooks := .later }
def LinearShowsCardSaid : Prop := Claim7.holds Tryz.pinned (.plain (OpenSpec.ofChange linearShowsSpec)) linearShowsCard

/-- THE TIED CARD OF 'plinthlaw01.ReaderReads'. -/
def readerReadsCard : Claim7 := { stood := { row := readerReadsRow, standIns := [], harness := (true, "976e6b276ccecfb4ecb090bd15085f8d93726ee1963721fee21b50b5a3feacf8"), looks := true }, kinds := [], alts := [], laidByText := true, laidKinds := [.data, .data, .data, .data, .sentinel, .sentinel, .pinned], laidTests := true, laidLooks := .later }
def ReaderReadsCardSaid : Prop := Claim7.holds Tryz.pinned (.plain (OpenSpec.ofChange readerReadsSpec)) readerReadsCard

/-- THE TIED CARD OF 'plinthlaw34.LinearDecides'. -/
def linearDecidesCard : Claim7 := { stood := { row := linearDecidesRow, standIns := [], harness := (true, "976e6b276ccecfb4ecb090bd15085f8d93726ee1963721fee21b50b5a3feacf8"), looks := true }, kinds := [], alts := [], laidByText := true, laidKinds := [.data, .pinned], laidTests := true, laidLooks := .later }
def LinearDecidesCardSaid : Prop := Claim7.holds Tryz.pinned (.plain (OpenSpec.ofChange linearDecidesSpec)) linearDecidesCard

/-- THE TIED CARD OF 'plinthlaw01.ReaderWrites'. -/
def readerWritesCard : Claim7 := { stood := { row := readerWritesRow, standIns := [], harness := (true, "976e6b276ccecfb4ecb090bd15085f8d93726ee1963721fee21b50b5a3feacf8"), looks := true }, kinds := [], alts := [], laidByText := true, laidKinds := [.data, .data, .data, .data, .sentinel, .sentinel, .pinned], laidTests := true, laidLooks := .later }
def ReaderWritesCardSaid : Prop := Claim7.holds Tryz.pinned (.plain (OpenSpec.ofChange readerWritesSpec)) readerWritesCard

/-- THE TIED CARD OF 'plinthlaw01.ReaderBack'. -/
def readerBackCard : Claim7 := { stood := { row := readerBackRow, standIns := [], harness := (true, "976e6b276ccecfb4ecb090bd15085f8d93726ee1963721fee21b50b5a3feacf8"), looks := true }, kinds := [], alts := [], laidByText := true, laidKinds := [.data, .data, .data, .data, .sentinel, .sentinel, .pinned], laidTests := true, laidLooks := .later }
def ReaderBackCardSaid : Prop := Claim7.holds Tryz.pinned (.plain (OpenSpec.ofChange readerBackSpec)) readerBackCard

/-- THE TIED CARD OF 'plinthlaw01.ReaderAll'. -/
def readerAllCard : Claim7 := { stood := { row := readerAllRow, standIns := [], harness := (true, "976e6b276ccecfb4ecb090bd15085f8d93726ee1963721fee21b50b5a3feacf8"), looks := true }, kinds := [], alts := [], laidByText := true, laidKinds := [.data, .data, .data, .data, .sentinel, .sentinel, .pinned], laidTests := true, laidLooks := .later }
def ReaderAllCardSaid : Prop := Claim7.holds Tryz.pinned (.plain (OpenSpec.ofChange readerAllSpec)) readerAllCard

/-- THE SECOND FORM's CARD OF 'plinthlaw34.LinearShows'. -/
def linearShowsUptoCard : Claim7 := { stood := { row := linearShowsUptoRow, standIns := [], harness := (true, "976e6b276ccecfb4ecb090bd15085f8d93726ee1963721fee21b50b5a3feacf8"), looks := true }, kinds := [], alts := [], laidByText := true, laidKinds := [.data, .pinned], laidTests := true, laidLooks := .later }
def LinearShowsUptoCardSaid : Prop := Claim7.holds Tryz.pinned (.plain (OpenSpec.upto linearShowsSpec)) linearShowsUptoCard

/-- THE SECOND FORM's CARD OF 'plinthlaw01.ReaderReads'. -/
def readerReadsUptoCard : Claim7 := { stood := { row := readerReadsUptoRow, standIns := [], harness := (true, "976e6b276ccecfb4ecb090bd15085f8d93726ee1963721fee21b50b5a3feacf8"), looks := true }, kinds := [], alts := [], laidByText := true, laidKinds := [.data, .data, .data, .data, .sentinel, .sentinel, .pinned], laidTests := true, laidLooks := .later }
def ReaderReadsUptoCardSaid : Prop := Claim7.holds Tryz.pinned (.plain (OpenSpec.upto readerReadsSpec)) readerReadsUptoCard

/-- THE SECOND FORM's CARD OF 'plinthlaw34.LinearDecides'. -/
def linearDecidesUptoCard : Claim7 := { stood := { row := linearDecidesUptoRow, standIns := [], harness := (true, "976e6b276ccecfb4ecb090bd15085f8d93726ee1963721fee21b50b5a3feacf8"), looks := true }, kinds := [], alts := [], laidByText := true, laidKinds := [.data, .pinned], laidTests := true, laidLooks := .later }
def LinearDecidesUptoCardSaid : Prop := Claim7.holds Tryz.pinned (.plain (OpenSpec.upto linearDecidesSpec)) linearDecidesUptoCard

/-- THE SECOND FORM's CARD OF 'plinthlaw01.ReaderWrites'. -/
def readerWritesUptoCard : Claim7 := { stood := { row := readerWritesUptoRow, standIns := [], harness := (true, "976e6b276ccecfb4ecb090bd15085f8d93726ee1963721fee21b50b5a3feacf8"), looks := true }, kinds := [], alts := [], laidByText := true, laidKinds := [.data, .data, .data, .data, .sentinel, .sentinel, .pinned], laidTests := true, laidLooks := .later }
def ReaderWritesUptoCardSaid : Prop := Claim7.holds Tryz.pinned (.plain (OpenSpec.upto readerWritesSpec)) readerWritesUptoCard

/-- THE SECOND FORM's CARD OF 'plinthlaw01.ReaderBack'. -/
def readerBackUptoCard : Claim7 := { stood := { row := readerBackUptoRow, standIns := [], harness := (true, "976e6b276ccecfb4ecb090bd15085f8d93726ee1963721fee21b50b5a3feacf8"), looks := true }, kinds := [], alts := [], laidByText := true, laidKinds := [.data, .data, .data, .data, .sentinel, .sentinel, .pinned], laidTests := true, laidLooks := .later }
def ReaderBackUptoCardSaid : Prop := Claim7.holds Tryz.pinned (.plain (OpenSpec.upto readerBackSpec)) readerBackUptoCard

/-- THE SECOND FORM's CARD OF 'plinthlaw01.ReaderAll'. -/
def readerAllUptoCard : Claim7 := { stood := { row := readerAllUptoRow, standIns := [], harness := (true, "976e6b276ccecfb4ecb090bd15085f8d93726ee1963721fee21b50b5a3feacf8"), looks := true }, kinds := [], alts := [], laidByText := true, laidKinds := [.data, .data, .data, .data, .sentinel, .sentinel, .pinned], laidTests := true, laidLooks := .later }
def ReaderAllUptoCardSaid : Prop := Claim7.holds Tryz.pinned (.plain (OpenSpec.upto readerAllSpec)) readerAllUptoCard
end Rows
end Go.Proofs.YtdagildojaagiaaGreatDoor
