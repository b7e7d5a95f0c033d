/-
  DERIVED. GIVEN WITH THE SEED: THE CARDS: each row of YtdbnlngkmfmnnaaGreatDoorRows.lean that lists a variable, with what it lists TIED to the program's text (the seventh form; the later family's looks); each row that meets fmt, with fmt's text TOLD by the authors' own Lean function (tested against real Go, not proved from fmt's source: count such statements apart). THE CARD IS WHAT COUNTS. Prove the row's statement (the work); the ties are given (YtdbnlngkmfmnnaaGreatDoorTie.lean); close each card by the builder's one call (the guide's Derived/Test/ToyasCard.lean, 'card_holds'). Laid BY PROGRAM, IN A SANDBOX (cutbox-door.mjs). By AI agents, Wed Nov 11 2026. No macro, syntax, notation, axiom, sorry.
-/
import Derived.Test.YtdbnlngkmfmnnaaGreatDoorRows
import GoSem.ClaimSeven
namespace Go.Proofs.YtdbnlngkmfmnnaaGreatDoor
namespace Rows

/-- THE TIED CARD OF 'humuslaw15.HeapNine'. -/
def heapNineCard : Claim7 := { stood := { row := heapNineRow, standIns := [], harness := (true, "5e6a593b8100960fd5477ff49ba38dfea59db2158cedd36636b645f2aef77e14"), looks := true }, kinds := [], alts := [], laidByText := true, laidKinds := [.data, .pinned], laidTests := true, laidLooks := .later }
def HeapNineCardSaid : Prop := Claim7.holds Tryz.pinned (.plain (OpenSpec.ofChange heapNineSpec)) heapNineCard

/-- THE TIED CARD OF 'humuslaw15.HeapSorts'. -/
def heapSortsCard : Claim7 := { stood := { row := heapSortsRow, standIns := [], harness := (true, "5e6a593b8100960fd5477ff49ba38dfea59db2158cedd36636b645f2aef77e14"), looks := true }, kinds := [], alts := [], laidByText := true, laidKinds := [.data, .pinned], laidTests := true, laidLooks := .later }
def HeapSortsCardSaid : Prop := Claim7.holds Tryz.pinned (.plain (OpenSpec.ofChange heapSortsSpec)) heapSortsCard

/-- THE TIED CARD OF 'humuslaw15.HeapFinds'. -/
def heapFindsCard : Claim7 := { stood := { row := heapFindsRow, standIns := [], harness := (true, "5e6a593b8100960fd5477ff49ba38dfea59db2158cedd36636b645f2aef77e14"), looks := true }, kinds := [], alts := [], laidByText := true, laidKinds := [.data, .pinned], laidTests := true, laidLooks := .later }
def HeapFindsCardSaid : Prop := Claim7.holds Tryz.pinned (.plain (OpenSpec.ofChange heapFindsSpec)) heapFindsCard

/-- THE TIED CARD OF 'humuslaw15.HeapOthers'. -/
def heapOthersCard : Claim7 := { stood := { row := heapOthersRow, standIns := [], harness := (true, "5e6a593b8100960fd5477ff49ba38dfea59db2158cedd36636b645f2aef77e14"), looks := true }, kinds := [], alts := [], laidByText := true, laidKinds := [.data, .pinned], laidTests := true, laidLooks := .later }
def HeapOthersCardSaid : Prop := Claim7.holds Tryz.pinned (.plain (OpenSpec.ofChange heapOthersSpec)) heapOthersCard

/-- THE TIED CARD OF 'humuslaw15.HeapTurns'. -/
def heapTurnsCard : Claim7 := { stood := { row := heapTurnsRow, standIns := [], harness := (true, "5e6a593b8100960fd5477ff49ba38dfea59db2158cedd36636b645f2aef77e14"), looks := true }, kinds := [], alts := [], laidByText := true, laidKinds := [.data, .pinned], laidTests := true, laidLooks := .later }
def HeapTurnsCardSaid : Prop := Claim7.holds Tryz.pinned (.plain (OpenSpec.ofChange heapTurnsSpec)) heapTurnsCard

/-- THE SECOND FORM's CARD OF 'humuslaw15.HeapNine'. -/
def heapNineUptoCard : Claim7 := { stood := { row := heapNineUptoRow, standIns := [], harness := (true, "5e6a593b8100960fd5477ff49ba38dfea59db2158cedd36636b645f2aef77e14"), looks := true }, kinds := [], alts := [], laidByText := true, laidKinds := [.data, .pinned], laidTests := true, laidLooks := .later }
def HeapNineUptoCardSaid : Prop := Claim7.holds Tryz.pinned (.plain (OpenSpec.upto heapNineSpec)) heapNineUptoCard

/-- THE SECOND FORM's CARD OF 'humuslaw15.HeapSorts'. -/
def heapSortsUptoCard : Claim7 := { stood := { row := heapSortsUptoRow, standIns := [], harness := (true, "5e6a593b8100960fd5477ff49ba38dfea59db2158cedd36636b645f2aef77e14"), looks := true }, kinds := [], alts := [], laidByText := true, laidKinds := [.data, .pinned], laidTests := true, laidLooks := .later }
def HeapSortsUptoCardSaid : Prop := Claim7.holds Tryz.pinned (.plain (OpenSpec.upto heapSortsSpec)) heapSortsUptoCard

/-- THE SECOND FORM's CARD OF 'humuslaw15.HeapFinds'. -/
def heapFindsUptoCard : Claim7 := { stood := { row := heapFindsUptoRow, standIns := [], harness := (true, "5e6a593b8100960fd5477ff49ba38dfea59db2158cedd36636b645f2aef77e14"), looks := true }, kinds := [], alts := [], laidByText := true, laidKinds := [.data, .pinned], laidTests := true, laidLooks := .later }
def HeapFindsUptoCardSaid : Prop := Claim7.holds Tryz.pinned (.plain (OpenSpec.upto heapFindsSpec)) heapFindsUptoCard

/-- THE SECOND FORM's CARD OF 'humuslaw15.HeapOthers'. -/
def heapOthersUptoCard : Claim7 := { stood := { row := heapOthersUptoRow, standIns := [], harness := (true, "5e6a593b8100960fd5477ff49ba38dfea59db2158cedd36636b645f2aef77e14"), looks := true }, kinds := [], alts := [], laidByText := true, laidKinds := [.data, .pinned], laidTests := true, laidLooks := .later }
def HeapOthersUptoCardSaid : Prop := Claim7.holds Tryz.pinned (.plain (OpenSpec.upto heapOthersSpec)) heapOthersUptoCard

/-- THE SECOND FORM's CARD OF 'humuslaw15.HeapTurns'. -/
def heapTurnsUptoCard : Claim7 := { stood := { row := heapTurnsUptoRow, standIns := [], harness := (true, "5e6a593b8100960fd5477ff49ba38dfea59db2158cedd36636b645f2aef77e14"), looks := true }, kinds := [], alts := [], laidByText := true, laidKinds := [.data, .pinned], laidTests := true, laidLooks := .later }
def HeapTurnsUptoCardSaid : Prop := Claim7.holds Tryz.pinned (.plain (OpenSpec.upto heapTurnsSpec)) heapTurnsUptoCard
end Rows
end Go.Proofs.YtdbnlngkmfmnnaaGreatDoor
