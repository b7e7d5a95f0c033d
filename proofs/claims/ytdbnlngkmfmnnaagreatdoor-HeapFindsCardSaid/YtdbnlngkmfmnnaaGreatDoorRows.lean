/-
  NARROWER THAN 'FOR EVERY INPUT', by the rows' own cells (each row's printed sentence says how): HeapNine: laid · HeapSorts: laid · HeapFinds: laid · HeapOthers: laid · HeapTurns: laid.
  DERIVED. THE GIVEN ROWS OF THIS SEAT. 5 by the template 'for every input the law returns true; each argument reads behind the call as it read before'; 0 by the template 'total and deterministic' (their statements: YtdbnlngkmfmnnaaGreatDoorTotals.lean).
  GIVEN WITH THE SEED: the statements are not yours to turn. If you find one false, say at which input.
  Laid BY PROGRAM, IN A SANDBOX (cutbox-rows.mjs): the forced cells as the released guide's own fill.sh prints them over the translation b92575296a234d53… (all of the seat's roots in one cut). By AI agents, Wed Nov 11 2026. No macro, syntax, notation, axiom, sorry.
-/
import Derived.Test.YtdbnlngkmfmnnaaGreatDoorChecked
import GoSem.PinnedTables
import GoSem.Claim
import GoSem.ClaimJoined
import GoSem.ClaimMapViews
import Derived.JoinedTies
import Derived.KernelRfl
namespace Go.Proofs.YtdbnlngkmfmnnaaGreatDoor
/- THE CELL 'sum', in the pinned program and in every row, IS THE sha256 OF THE DUMP (.gsa) THAT YtdbnlngkmfmnnaaGreatDoorProg.lean LOADS. Nothing in Lean hashes anything: it is a label: what it is worth is what the hold of that sum in a sandbox is worth. -/
noncomputable def Tryz.pinned : Pinned := { name := "ytdbnlngkmfmnnaagreatdoor", sum := "b92575296a234d535c8c715725472d3ca2a3875760f5ec8a8c4a2cd687c29d53", checked := Tryz.checked }
namespace Rows
def none {H : Type} : Left H := { results := [], args := [] }

/- WHAT THE LISTED PACKAGE-LEVEL VARIABLES READ AS WHEN THE CALL BEGINS. Each datum BY PROGRAM (the guide's laid-datum.mjs) off the statement by which the dump's own 'gosem.cut.vars' lays the variable. In a bare row this is a premise. The card (YtdbnlngkmfmnnaaGreatDoorCards.lean) ties it to the program's text. -/
def laid_unicode_utf8_acceptRanges {H : Type} : DataW H := .agg [.agg [.lit (.int .u8 128), .lit (.int .u8 191)], .agg [.lit (.int .u8 160), .lit (.int .u8 191)], .agg [.lit (.int .u8 128), .lit (.int .u8 159)], .agg [.lit (.int .u8 144), .lit (.int .u8 191)], .agg [.lit (.int .u8 128), .lit (.int .u8 143)], .agg [.lit (.int .u8 0), .lit (.int .u8 0)], .agg [.lit (.int .u8 0), .lit (.int .u8 0)], .agg [.lit (.int .u8 0), .lit (.int .u8 0)], .agg [.lit (.int .u8 0), .lit (.int .u8 0)], .agg [.lit (.int .u8 0), .lit (.int .u8 0)], .agg [.lit (.int .u8 0), .lit (.int .u8 0)], .agg [.lit (.int .u8 0), .lit (.int .u8 0)], .agg [.lit (.int .u8 0), .lit (.int .u8 0)], .agg [.lit (.int .u8 0), .lit (.int .u8 0)], .agg [.lit (.int .u8 0), .lit (.int .u8 0)], .agg [.lit (.int .u8 0), .lit (.int .u8 0)]]
/-- One of Go's own tables, pinned by name: the form's constant. -/
def laid_unicode_utf8_first : DataW Unit := Go.Pinned.utf8First

/-- 'humuslaw15.HeapNine': WHATEVER THE INPUT: true; the input reads as it did. -/
def heapNineSpec : ChangeSpec := { name := "heapNine", fn := fun _ => fun
  | [d1, d2] => { results := [.lit (.bool true)], args := [d1, d2] }
  | _ => none }
def heapNineRow : OpenClaim := { program := "ytdbnlngkmfmnnaagreatdoor", sum := "b92575296a234d535c8c715725472d3ca2a3875760f5ec8a8c4a2cd687c29d53", func := "humus/humuslaw15.HeapNine", spec := "heapNine", inPlace := ["math.Float64bits", "math.Float64frombits"], unfollowed := true, recurses := true, named := ["unicode/utf8.first", "unicode/utf8.acceptRanges"], apart := false, laid := [("unicode/utf8.acceptRanges", laid_unicode_utf8_acceptRanges), ("unicode/utf8.first", laid_unicode_utf8_first)] }
def HeapNineSaid : Prop := heapNineRow.holds Tryz.pinned (OpenSpec.ofChange heapNineSpec)

/-- ITS FALSE NEIGHBOUR: 'it returns false'. Refute it at one input. -/
def heapNineWrong : ChangeSpec := { name := "heapNine", fn := fun _ => fun
  | [d1, d2] => { results := [.lit (.bool false)], args := [d1, d2] }
  | _ => none }
def HeapNineWrongFalsely : Prop := heapNineRow.holds Tryz.pinned (OpenSpec.ofChange heapNineWrong)

/-- 'humuslaw15.HeapSorts': WHATEVER THE INPUT: true; the input reads as it did. -/
def heapSortsSpec : ChangeSpec := { name := "heapSorts", fn := fun _ => fun
  | [d1, d2] => { results := [.lit (.bool true)], args := [d1, d2] }
  | _ => none }
def heapSortsRow : OpenClaim := { program := "ytdbnlngkmfmnnaagreatdoor", sum := "b92575296a234d535c8c715725472d3ca2a3875760f5ec8a8c4a2cd687c29d53", func := "humus/humuslaw15.HeapSorts", spec := "heapSorts", inPlace := ["math.Float64frombits", "math.Float64bits"], unfollowed := true, recurses := true, named := ["unicode/utf8.first", "unicode/utf8.acceptRanges"], apart := false, laid := [("unicode/utf8.acceptRanges", laid_unicode_utf8_acceptRanges), ("unicode/utf8.first", laid_unicode_utf8_first)] }
def HeapSortsSaid : Prop := heapSortsRow.holds Tryz.pinned (OpenSpec.ofChange heapSortsSpec)

/-- ITS FALSE NEIGHBOUR: 'it returns false'. Refute it at one input. -/
def heapSortsWrong : ChangeSpec := { name := "heapSorts", fn := fun _ => fun
  | [d1, d2] => { results := [.lit (.bool false)], args := [d1, d2] }
  | _ => none }
def HeapSortsWrongFalsely : Prop := heapSortsRow.holds Tryz.pinned (OpenSpec.ofChange heapSortsWrong)

/-- 'humuslaw15.HeapFinds': WHATEVER THE INPUT: true; the input reads as it did. -/
def heapFindsSpec : ChangeSpec := { name := "heapFinds", fn := fun _ => fun
  | [d1, d2, d3] => { results := [.lit (.bool true)], args := [d1, d2, d3] }
  | _ => none }
def heapFindsRow : OpenClaim := { program := "ytdbnlngkmfmnnaagreatdoor", sum := "b92575296a234d535c8c715725472d3ca2a3875760f5ec8a8c4a2cd687c29d53", func := "humus/humuslaw15.HeapFinds", spec := "heapFinds", inPlace := ["math.Float64frombits", "math.Float64bits"], unfollowed := true, recurses := true, named := ["unicode/utf8.first", "unicode/utf8.acceptRanges"], apart := false, laid := [("unicode/utf8.acceptRanges", laid_unicode_utf8_acceptRanges), ("unicode/utf8.first", laid_unicode_utf8_first)] }
def HeapFindsSaid : Prop := heapFindsRow.holds Tryz.pinned (OpenSpec.ofChange heapFindsSpec)

/-- ITS FALSE NEIGHBOUR: 'it returns false'. Refute it at one input. -/
def heapFindsWrong : ChangeSpec := { name := "heapFinds", fn := fun _ => fun
  | [d1, d2, d3] => { results := [.lit (.bool false)], args := [d1, d2, d3] }
  | _ => none }
def HeapFindsWrongFalsely : Prop := heapFindsRow.holds Tryz.pinned (OpenSpec.ofChange heapFindsWrong)

/-- 'humuslaw15.HeapOthers': WHATEVER THE INPUT: true; the input reads as it did. -/
def heapOthersSpec : ChangeSpec := { name := "heapOthers", fn := fun _ => fun
  | [d1, d2, d3] => { results := [.lit (.bool true)], args := [d1, d2, d3] }
  | _ => none }
def heapOthersRow : OpenClaim := { program := "ytdbnlngkmfmnnaagreatdoor", sum := "b92575296a234d535c8c715725472d3ca2a3875760f5ec8a8c4a2cd687c29d53", func := "humus/humuslaw15.HeapOthers", spec := "heapOthers", inPlace := ["math.Float64bits", "math.Float64frombits"], unfollowed := true, recurses := true, named := ["unicode/utf8.first", "unicode/utf8.acceptRanges"], apart := false, laid := [("unicode/utf8.acceptRanges", laid_unicode_utf8_acceptRanges), ("unicode/utf8.first", laid_unicode_utf8_first)] }
def HeapOthersSaid : Prop := heapOthersRow.holds Tryz.pinned (OpenSpec.ofChange heapOthersSpec)

/-- ITS FALSE NEIGHBOUR: 'it returns false'. Refute it at one input. -/
def heapOthersWrong : ChangeSpec := { name := "heapOthers", fn := fun _ => fun
  | [d1, d2, d3] => { results := [.lit (.bool false)], args := [d1, d2, d3] }
  | _ => none }
def HeapOthersWrongFalsely : Prop := heapOthersRow.holds Tryz.pinned (OpenSpec.ofChange heapOthersWrong)

/-- 'humuslaw15.HeapTurns': WHATEVER THE INPUT: true; the input reads as it did. -/
def heapTurnsSpec : ChangeSpec := { name := "heapTurns", fn := fun _ => fun
  | [d1, d2, d3] => { results := [.lit (.bool true)], args := [d1, d2, d3] }
  | _ => none }
def heapTurnsRow : OpenClaim := { program := "ytdbnlngkmfmnnaagreatdoor", sum := "b92575296a234d535c8c715725472d3ca2a3875760f5ec8a8c4a2cd687c29d53", func := "humus/humuslaw15.HeapTurns", spec := "heapTurns", inPlace := ["math.Float64frombits", "math.Float64bits"], unfollowed := true, recurses := true, named := ["unicode/utf8.first", "unicode/utf8.acceptRanges"], apart := false, laid := [("unicode/utf8.acceptRanges", laid_unicode_utf8_acceptRanges), ("unicode/utf8.first", laid_unicode_utf8_first)] }
def HeapTurnsSaid : Prop := heapTurnsRow.holds Tryz.pinned (OpenSpec.ofChange heapTurnsSpec)

/-- ITS FALSE NEIGHBOUR: 'it returns false'. Refute it at one input. -/
def heapTurnsWrong : ChangeSpec := { name := "heapTurns", fn := fun _ => fun
  | [d1, d2, d3] => { results := [.lit (.bool false)], args := [d1, d2, d3] }
  | _ => none }
def HeapTurnsWrongFalsely : Prop := heapTurnsRow.holds Tryz.pinned (OpenSpec.ofChange heapTurnsWrong)

/- THE SECOND FORM. 'bulk': how many values and letters a reading holds, each counted each time it is reached (what is shared counts as often as it is met; a slice's spare places count too). A statement '..UptoSaid' is the law's where the arguments, and the package variables that the reading takes, are together of bulk at most 1048576: NARROWER than '..Said'. Prove '..Said' where nothing that the law and all that it calls make is longer than what came in: it says more and counts as full. Else prove '..UptoSaid'. A law counts once. -/
mutual
def uptoBulk {H : Type} : DataW H → Nat
  | .lit (.string bytes) => bytes.length + 1
  | .lit _ => 1
  | .nil => 1
  | .ptr d => uptoBulk d + 1
  | .slice elems spare => uptoBulkAll elems + uptoBulkAll spare + 1
  | .agg parts => uptoBulkAll parts + 1
  | .iface _ d => uptoBulk d + 1
  | .map entries => uptoBulkEntries entries + 1
  | .held _ => 1
def uptoBulkAll {H : Type} : List (DataW H) → Nat
  | [] => 0
  | d :: r => uptoBulk d + uptoBulkAll r
def uptoBulkEntries {H : Type} : List (Lit × DataW H) → Nat
  | [] => 0
  | x :: r => uptoBulkEntry x + uptoBulkEntries r
def uptoBulkEntry {H : Type} : Lit × DataW H → Nat
  | (.string bytes, d) => bytes.length + uptoBulk d + 1
  | (_, d) => uptoBulk d + 1
 end
def uptoSmall : (H : Type) → List (DataW H) → Bool := fun _ ds => decide (uptoBulkAll ds ≤ 1048576)
def OpenSpec.upto (s : _root_.Go.ChangeSpec) : _root_.Go.OpenSpec := { _root_.Go.OpenSpec.ofChange s with cond := some uptoSmall }

/-- 'humuslaw15.HeapNine', WHERE WHAT IT READS IS OF BULK AT MOST 1048576: true; the input reads as it did. -/
def heapNineUptoRow : OpenClaim := { program := "ytdbnlngkmfmnnaagreatdoor", sum := "b92575296a234d535c8c715725472d3ca2a3875760f5ec8a8c4a2cd687c29d53", func := "humus/humuslaw15.HeapNine", spec := "heapNine", inPlace := ["math.Float64bits", "math.Float64frombits"], unfollowed := true, recurses := true, named := ["unicode/utf8.first", "unicode/utf8.acceptRanges"], apart := false, laid := [("unicode/utf8.acceptRanges", laid_unicode_utf8_acceptRanges), ("unicode/utf8.first", laid_unicode_utf8_first)], narrowed := true }
def HeapNineUptoSaid : Prop := heapNineUptoRow.holds Tryz.pinned (OpenSpec.upto heapNineSpec)

/-- 'humuslaw15.HeapSorts', WHERE WHAT IT READS IS OF BULK AT MOST 1048576: true; the input reads as it did. -/
def heapSortsUptoRow : OpenClaim := { program := "ytdbnlngkmfmnnaagreatdoor", sum := "b92575296a234d535c8c715725472d3ca2a3875760f5ec8a8c4a2cd687c29d53", func := "humus/humuslaw15.HeapSorts", spec := "heapSorts", inPlace := ["math.Float64frombits", "math.Float64bits"], unfollowed := true, recurses := true, named := ["unicode/utf8.first", "unicode/utf8.acceptRanges"], apart := false, laid := [("unicode/utf8.acceptRanges", laid_unicode_utf8_acceptRanges), ("unicode/utf8.first", laid_unicode_utf8_first)], narrowed := true }
def HeapSortsUptoSaid : Prop := heapSortsUptoRow.holds Tryz.pinned (OpenSpec.upto heapSortsSpec)

/-- 'humuslaw15.HeapFinds', WHERE WHAT IT READS IS OF BULK AT MOST 1048576: true; the input reads as it did. -/
def heapFindsUptoRow : OpenClaim := { program := "ytdbnlngkmfmnnaagreatdoor", sum := "b92575296a234d535c8c715725472d3ca2a3875760f5ec8a8c4a2cd687c29d53", func := "humus/humuslaw15.HeapFinds", spec := "heapFinds", inPlace := ["math.Float64frombits", "math.Float64bits"], unfollowed := true, recurses := true, named := ["unicode/utf8.first", "unicode/utf8.acceptRanges"], apart := false, laid := [("unicode/utf8.acceptRanges", laid_unicode_utf8_acceptRanges), ("unicode/utf8.first", laid_unicode_utf8_first)], narrowed := true }
def HeapFindsUptoSaid : Prop := heapFindsUptoRow.holds Tryz.pinned (OpenSpec.upto heapFindsSpec)

/-- 'humuslaw15.HeapOthers', WHERE WHAT IT READS IS OF BULK AT MOST 1048576: true; the input reads as it did. -/
def heapOthersUptoRow : OpenClaim := { program := "ytdbnlngkmfmnnaagreatdoor", sum := "b92575296a234d535c8c715725472d3ca2a3875760f5ec8a8c4a2cd687c29d53", func := "humus/humuslaw15.HeapOthers", spec := "heapOthers", inPlace := ["math.Float64bits", "math.Float64frombits"], unfollowed := true, recurses := true, named := ["unicode/utf8.first", "unicode/utf8.acceptRanges"], apart := false, laid := [("unicode/utf8.acceptRanges", laid_unicode_utf8_acceptRanges), ("unicode/utf8.first", laid_unicode_utf8_first)], narrowed := true }
def HeapOthersUptoSaid : Prop := heapOthersUptoRow.holds Tryz.pinned (OpenSpec.upto heapOthersSpec)

/-- 'humuslaw15.HeapTurns', WHERE WHAT IT READS IS OF BULK AT MOST 1048576: true; the input reads as it did. -/
def heapTurnsUptoRow : OpenClaim := { program := "ytdbnlngkmfmnnaagreatdoor", sum := "b92575296a234d535c8c715725472d3ca2a3875760f5ec8a8c4a2cd687c29d53", func := "humus/humuslaw15.HeapTurns", spec := "heapTurns", inPlace := ["math.Float64frombits", "math.Float64bits"], unfollowed := true, recurses := true, named := ["unicode/utf8.first", "unicode/utf8.acceptRanges"], apart := false, laid := [("unicode/utf8.acceptRanges", laid_unicode_utf8_acceptRanges), ("unicode/utf8.first", laid_unicode_utf8_first)], narrowed := true }
def HeapTurnsUptoSaid : Prop := heapTurnsUptoRow.holds Tryz.pinned (OpenSpec.upto heapTurnsSpec)

end Rows
end Go.Proofs.YtdbnlngkmfmnnaaGreatDoor
