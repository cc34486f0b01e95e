/-
  NARROWER THAN 'FOR EVERY INPUT', by the rows' own cells (each row's printed sentence says how): ConcordLess: laid · ConcordSort: laid · ConcordLines: laid · ConcordOrder: laid · ConcordTexts: laid · ConcordAligned: laid.
  DERIVED. THE GIVEN ROWS OF THIS SEAT. 6 by the template 'for every input the law returns true; each argument reads behind the call as it read before'; 0 by the template 'total and deterministic' (their statements: YtdpllfgnppeneaaDoorTotals.lean).
  GIVEN WITH THE SEED: the statements are not yours to turn. If you find one false, say at which input.
  Laid BY PROGRAM, IN A SANDBOX (cutbox-rows.mjs): the forced cells as the released guide's own fill.sh prints them over the translation a6178ccb7492e3d4… (all of the seat's roots in one cut). By AI agents, Wed Nov 11 2026. No macro, syntax, notation, axiom, sorry.
-/
import Derived.Test.YtdpllfgnppeneaaDoorChecked
import GoSem.PinnedTables
import GoSem.Claim
import GoSem.ClaimJoined
import GoSem.ClaimMapViews
import Derived.JoinedTies
import Derived.KernelRfl
namespace Go.Proofs.YtdpllfgnppeneaaDoor
/- THE CELL 'sum', in the pinned program and in every row, IS THE sha256 OF THE DUMP (.gsa) THAT YtdpllfgnppeneaaDoorProg.lean LOADS. Nothing in Lean hashes anything: it is a label: what it is worth is what the hold of that sum in a sandbox is worth. -/
noncomputable def Tryd.pinned : Pinned := { name := "ytdpllfgnppeneaadoor", sum := "a6178ccb7492e3d4c9cfee722ab4e2ef2f2d74813c0a38586160eda91356858d", checked := Tryd.checked }
namespace Rows
def none {H : Type} : Left H := { results := [], args := [] }

/- WHAT THE LISTED PACKAGE-LEVEL VARIABLES READ AS WHEN THE CALL BEGINS. Each datum BY PROGRAM (the guide's laid-datum.mjs) off the statement by which the dump's own 'gosem.cut.vars' lays the variable. In a bare row this is a premise. The card (YtdpllfgnppeneaaDoorCards.lean) ties it to the program's text. -/
def laid_unicode_utf8_acceptRanges {H : Type} : DataW H := .agg [.agg [.lit (.int .u8 128), .lit (.int .u8 191)], .agg [.lit (.int .u8 160), .lit (.int .u8 191)], .agg [.lit (.int .u8 128), .lit (.int .u8 159)], .agg [.lit (.int .u8 144), .lit (.int .u8 191)], .agg [.lit (.int .u8 128), .lit (.int .u8 143)], .agg [.lit (.int .u8 0), .lit (.int .u8 0)], .agg [.lit (.int .u8 0), .lit (.int .u8 0)], .agg [.lit (.int .u8 0), .lit (.int .u8 0)], .agg [.lit (.int .u8 0), .lit (.int .u8 0)], .agg [.lit (.int .u8 0), .lit (.int .u8 0)], .agg [.lit (.int .u8 0), .lit (.int .u8 0)], .agg [.lit (.int .u8 0), .lit (.int .u8 0)], .agg [.lit (.int .u8 0), .lit (.int .u8 0)], .agg [.lit (.int .u8 0), .lit (.int .u8 0)], .agg [.lit (.int .u8 0), .lit (.int .u8 0)], .agg [.lit (.int .u8 0), .lit (.int .u8 0)]]
/-- One of Go's own tables, pinned by name: the form's constant. -/
def laid_unicode_utf8_first : DataW Unit := Go.Pinned.utf8First

/-- 'langdoclaw39.ConcordLess': WHATEVER THE INPUT: true; the input reads as it did. -/
def concordLessSpec : ChangeSpec := { name := "concordLess", fn := fun _ => fun
  | [d1, d2, d3, d4] => { results := [.lit (.bool true)], args := [d1, d2, d3, d4] }
  | _ => none }
def concordLessRow : OpenClaim := { program := "ytdpllfgnppeneaadoor", sum := "a6178ccb7492e3d4c9cfee722ab4e2ef2f2d74813c0a38586160eda91356858d", func := "langdoc/langdoclaw39.ConcordLess", spec := "concordLess", inPlace := ["internal/abi.NoEscape", "internal/bytealg.MakeNoZero"], unfollowed := true, recurses := true, named := ["unicode/utf8.first", "unicode/utf8.acceptRanges"], apart := false, laid := [("unicode/utf8.acceptRanges", laid_unicode_utf8_acceptRanges), ("unicode/utf8.first", laid_unicode_utf8_first)] }
def ConcordLessSaid : Prop := concordLessRow.holds Tryd.pinned (OpenSpec.ofChange concordLessSpec)

/-- ITS FALSE NEIGHBOUR: 'it returns false'. Refute it at one input. -/
def concordLessWrong : ChangeSpec := { name := "concordLess", fn := fun _ => fun
  | [d1, d2, d3, d4] => { results := [.lit (.bool false)], args := [d1, d2, d3, d4] }
  | _ => none }
def ConcordLessWrongFalsely : Prop := concordLessRow.holds Tryd.pinned (OpenSpec.ofChange concordLessWrong)

/-- 'langdoclaw39.ConcordSort': WHATEVER THE INPUT: true; the input reads as it did. -/
def concordSortSpec : ChangeSpec := { name := "concordSort", fn := fun _ => fun
  | [d1, d2, d3] => { results := [.lit (.bool true)], args := [d1, d2, d3] }
  | _ => none }
def concordSortRow : OpenClaim := { program := "ytdpllfgnppeneaadoor", sum := "a6178ccb7492e3d4c9cfee722ab4e2ef2f2d74813c0a38586160eda91356858d", func := "langdoc/langdoclaw39.ConcordSort", spec := "concordSort", inPlace := ["internal/abi.NoEscape", "internal/bytealg.MakeNoZero"], unfollowed := true, recurses := true, named := ["unicode/utf8.first", "unicode/utf8.acceptRanges"], apart := false, laid := [("unicode/utf8.acceptRanges", laid_unicode_utf8_acceptRanges), ("unicode/utf8.first", laid_unicode_utf8_first)] }
def ConcordSortSaid : Prop := concordSortRow.holds Tryd.pinned (OpenSpec.ofChange concordSortSpec)

/-- ITS FALSE NEIGHBOUR: 'it returns false'. Refute it at one input. -/
def concordSortWrong : ChangeSpec := { name := "concordSort", fn := fun _ => fun
  | [d1, d2, d3] => { results := [.lit (.bool false)], args := [d1, d2, d3] }
  | _ => none }
def ConcordSortWrongFalsely : Prop := concordSortRow.holds Tryd.pinned (OpenSpec.ofChange concordSortWrong)

/-- 'langdoclaw39.ConcordLines': WHATEVER THE INPUT: true; the input reads as it did. -/
def concordLinesSpec : ChangeSpec := { name := "concordLines", fn := fun _ => fun
  | [d] => { results := [.lit (.bool true)], args := [d] }
  | _ => none }
def concordLinesRow : OpenClaim := { program := "ytdpllfgnppeneaadoor", sum := "a6178ccb7492e3d4c9cfee722ab4e2ef2f2d74813c0a38586160eda91356858d", func := "langdoc/langdoclaw39.ConcordLines", spec := "concordLines", inPlace := ["internal/abi.NoEscape", "internal/bytealg.MakeNoZero"], unfollowed := true, recurses := true, named := ["unicode/utf8.first", "unicode/utf8.acceptRanges"], apart := false, laid := [("unicode/utf8.acceptRanges", laid_unicode_utf8_acceptRanges), ("unicode/utf8.first", laid_unicode_utf8_first)] }
def ConcordLinesSaid : Prop := concordLinesRow.holds Tryd.pinned (OpenSpec.ofChange concordLinesSpec)

/-- ITS FALSE NEIGHBOUR: 'it returns false'. Refute it at one input. -/
def concordLinesWrong : ChangeSpec := { name := "concordLines", fn := fun _ => fun
  | [d] => { results := [.lit (.bool false)], args := [d] }
  | _ => none }
def ConcordLinesWrongFalsely : Prop := concordLinesRow.holds Tryd.pinned (OpenSpec.ofChange concordLinesWrong)

/-- 'langdoclaw39.ConcordOrder': WHATEVER THE INPUT: true; the input reads as it did. -/
def concordOrderSpec : ChangeSpec := { name := "concordOrder", fn := fun _ => fun
  | [d1, d2, d3] => { results := [.lit (.bool true)], args := [d1, d2, d3] }
  | _ => none }
def concordOrderRow : OpenClaim := { program := "ytdpllfgnppeneaadoor", sum := "a6178ccb7492e3d4c9cfee722ab4e2ef2f2d74813c0a38586160eda91356858d", func := "langdoc/langdoclaw39.ConcordOrder", spec := "concordOrder", inPlace := ["internal/abi.NoEscape", "internal/bytealg.MakeNoZero"], unfollowed := true, recurses := true, named := ["unicode/utf8.first", "unicode/utf8.acceptRanges"], apart := false, laid := [("unicode/utf8.acceptRanges", laid_unicode_utf8_acceptRanges), ("unicode/utf8.first", laid_unicode_utf8_first)] }
def ConcordOrderSaid : Prop := concordOrderRow.holds Tryd.pinned (OpenSpec.ofChange concordOrderSpec)

/-- ITS FALSE NEIGHBOUR: 'it returns false'. Refute it at one input. -/
def concordOrderWrong : ChangeSpec := { name := "concordOrder", fn := fun _ => fun
  | [d1, d2, d3] => { results := [.lit (.bool false)], args := [d1, d2, d3] }
  | _ => none }
def ConcordOrderWrongFalsely : Prop := concordOrderRow.holds Tryd.pinned (OpenSpec.ofChange concordOrderWrong)

/-- 'langdoclaw39.ConcordTexts': WHATEVER THE INPUT: true; the input reads as it did. -/
def concordTextsSpec : ChangeSpec := { name := "concordTexts", fn := fun _ => fun
  | [d1, d2, d3] => { results := [.lit (.bool true)], args := [d1, d2, d3] }
  | _ => none }
def concordTextsRow : OpenClaim := { program := "ytdpllfgnppeneaadoor", sum := "a6178ccb7492e3d4c9cfee722ab4e2ef2f2d74813c0a38586160eda91356858d", func := "langdoc/langdoclaw39.ConcordTexts", spec := "concordTexts", inPlace := ["internal/abi.NoEscape", "internal/bytealg.MakeNoZero"], unfollowed := true, recurses := true, named := ["unicode/utf8.first", "unicode/utf8.acceptRanges"], apart := false, laid := [("unicode/utf8.acceptRanges", laid_unicode_utf8_acceptRanges), ("unicode/utf8.first", laid_unicode_utf8_first)] }
def ConcordTextsSaid : Prop := concordTextsRow.holds Tryd.pinned (OpenSpec.ofChange concordTextsSpec)

/-- ITS FALSE NEIGHBOUR: 'it returns false'. Refute it at one input. -/
def concordTextsWrong : ChangeSpec := { name := "concordTexts", fn := fun _ => fun
  | [d1, d2, d3] => { results := [.lit (.bool false)], args := [d1, d2, d3] }
  | _ => none }
def ConcordTextsWrongFalsely : Prop := concordTextsRow.holds Tryd.pinned (OpenSpec.ofChange concordTextsWrong)

/-- 'langdoclaw39.ConcordAligned': WHATEVER THE INPUT: true; the input reads as it did. -/
def concordAlignedSpec : ChangeSpec := { name := "concordAligned", fn := fun _ => fun
  | [d] => { results := [.lit (.bool true)], args := [d] }
  | _ => none }
def concordAlignedRow : OpenClaim := { program := "ytdpllfgnppeneaadoor", sum := "a6178ccb7492e3d4c9cfee722ab4e2ef2f2d74813c0a38586160eda91356858d", func := "langdoc/langdoclaw39.ConcordAligned", spec := "concordAligned", inPlace := ["internal/abi.NoEscape", "internal/bytealg.MakeNoZero"], unfollowed := true, recurses := true, named := ["unicode/utf8.first", "unicode/utf8.acceptRanges"], apart := false, laid := [("unicode/utf8.acceptRanges", laid_unicode_utf8_acceptRanges), ("unicode/utf8.first", laid_unicode_utf8_first)] }
def ConcordAlignedSaid : Prop := concordAlignedRow.holds Tryd.pinned (OpenSpec.ofChange concordAlignedSpec)

/-- ITS FALSE NEIGHBOUR: 'it returns false'. Refute it at one input. -/
def concordAlignedWrong : ChangeSpec := { name := "concordAligned", fn := fun _ => fun
  | [d] => { results := [.lit (.bool false)], args := [d] }
  | _ => none }
def ConcordAlignedWrongFalsely : Prop := concordAlignedRow.holds Tryd.pinned (OpenSpec.ofChange concordAlignedWrong)

/- THE SECOND FORM. 'bulk': how many values and letters a reading holds, each counted each time it is reached (what is shared counts as often as it is met; a slice's spare places count too). A statement '..UptoSaid' is the law's where the arguments, and the package variables that the reading takes, are together of bulk at most 1048576: NARROWER than '..Said'. Prove '..Said' where nothing that the law and all that it calls make is longer than what came in: it says more and counts as full. Else prove '..UptoSaid'. A law counts once. -/
mutual
def uptoBulk {H : Type} : DataW H → Nat
  | .lit (.string bytes) => bytes.length + 1
  | .lit _ => 1
  | .nil => 1
  | .ptr d => uptoBulk d + 1
  | .slice elems spare => uptoBulkAll elems + uptoBulkAll spare + 1
  | .agg parts => uptoBulkAll parts + 1
  | .iface _ d => uptoBulk d + 1
  | .map entries => uptoBulkEntries entries + 1
  | .held _ => 1
def uptoBulkAll {H : Type} : List (DataW H) → Nat
  | [] => 0
  | d :: r => uptoBulk d + uptoBulkAll r
def uptoBulkEntries {H : Type} : List (Lit × DataW H) → Nat
  | [] => 0
  | x :: r => uptoBulkEntry x + uptoBulkEntries r
def uptoBulkEntry {H : Type} : Lit × DataW H → Nat
  | (.string bytes, d) => bytes.length + uptoBulk d + 1
  | (_, d) => uptoBulk d + 1
 end
def uptoSmall : (H : Type) → List (DataW H) → Bool := fun _ ds => decide (uptoBulkAll ds ≤ 1048576)
def OpenSpec.upto (s : _root_.Go.ChangeSpec) : _root_.Go.OpenSpec := { _root_.Go.OpenSpec.ofChange s with cond := some uptoSmall }

/-- 'langdoclaw39.ConcordLess', WHERE WHAT IT READS IS OF BULK AT MOST 1048576: true; the input reads as it did. -/
def concordLessUptoRow : OpenClaim := { program := "ytdpllfgnppeneaadoor", sum := "a6178ccb7492e3d4c9cfee722ab4e2ef2f2d74813c0a38586160eda91356858d", func := "langdoc/langdoclaw39.ConcordLess", spec := "concordLess", inPlace := ["internal/abi.NoEscape", "internal/bytealg.MakeNoZero"], unfollowed := true, recurses := true, named := ["unicode/utf8.first", "unicode/utf8.acceptRanges"], apart := false, laid := [("unicode/utf8.acceptRanges", laid_unicode_utf8_acceptRanges), ("unicode/utf8.first", laid_unicode_utf8_first)], narrowed := true }
def ConcordLessUptoSaid : Prop := concordLessUptoRow.holds Tryd.pinned (OpenSpec.upto concordLessSpec)

/-- 'langdoclaw39.ConcordSort', WHERE WHAT IT READS IS OF BULK AT MOST 1048576: true; the input reads as it did. -/
def concordSortUptoRow : OpenClaim := { program := "ytdpllfgnppeneaadoor", sum := "a6178ccb7492e3d4c9cfee722ab4e2ef2f2d74813c0a38586160eda91356858d", func := "langdoc/langdoclaw39.ConcordSort", spec := "concordSort", inPlace := ["internal/abi.NoEscape", "internal/bytealg.MakeNoZero"], unfollowed := true, recurses := true, named := ["unicode/utf8.first", "unicode/utf8.acceptRanges"], apart := false, laid := [("unicode/utf8.acceptRanges", laid_unicode_utf8_acceptRanges), ("unicode/utf8.first", laid_unicode_utf8_first)], narrowed := true }
def ConcordSortUptoSaid : Prop := concordSortUptoRow.holds Tryd.pinned (OpenSpec.upto concordSortSpec)

/-- 'langdoclaw39.ConcordLines', WHERE WHAT IT READS IS OF BULK AT MOST 1048576: true; the input reads as it did. -/
def concordLinesUptoRow : OpenClaim := { program := "ytdpllfgnppeneaadoor", sum := "a6178ccb7492e3d4c9cfee722ab4e2ef2f2d74813c0a38586160eda91356858d", func := "langdoc/langdoclaw39.ConcordLines", spec := "concordLines", inPlace := ["internal/abi.NoEscape", "internal/bytealg.MakeNoZero"], unfollowed := true, recurses := true, named := ["unicode/utf8.first", "unicode/utf8.acceptRanges"], apart := false, laid := [("unicode/utf8.acceptRanges", laid_unicode_utf8_acceptRanges), ("unicode/utf8.first", laid_unicode_utf8_first)], narrowed := true }
def ConcordLinesUptoSaid : Prop := concordLinesUptoRow.holds Tryd.pinned (OpenSpec.upto concordLinesSpec)

/-- 'langdoclaw39.ConcordOrder', WHERE WHAT IT READS IS OF BULK AT MOST 1048576: true; the input reads as it did. -/
def concordOrderUptoRow : OpenClaim := { program := "ytdpllfgnppeneaadoor", sum := "a6178ccb7492e3d4c9cfee722ab4e2ef2f2d74813c0a38586160eda91356858d", func := "langdoc/langdoclaw39.ConcordOrder", spec := "concordOrder", inPlace := ["internal/abi.NoEscape", "internal/bytealg.MakeNoZero"], unfollowed := true, recurses := true, named := ["unicode/utf8.first", "unicode/utf8.acceptRanges"], apart := false, laid := [("unicode/utf8.acceptRanges", laid_unicode_utf8_acceptRanges), ("unicode/utf8.first", laid_unicode_utf8_first)], narrowed := true }
def ConcordOrderUptoSaid : Prop := concordOrderUptoRow.holds Tryd.pinned (OpenSpec.upto concordOrderSpec)

/-- 'langdoclaw39.ConcordTexts', WHERE WHAT IT READS IS OF BULK AT MOST 1048576: true; the input reads as it did. -/
def concordTextsUptoRow : OpenClaim := { program := "ytdpllfgnppeneaadoor", sum := "a6178ccb7492e3d4c9cfee722ab4e2ef2f2d74813c0a38586160eda91356858d", func := "langdoc/langdoclaw39.ConcordTexts", spec := "concordTexts", inPlace := ["internal/abi.NoEscape", "internal/bytealg.MakeNoZero"], unfollowed := true, recurses := true, named := ["unicode/utf8.first", "unicode/utf8.acceptRanges"], apart := false, laid := [("unicode/utf8.acceptRanges", laid_unicode_utf8_acceptRanges), ("unicode/utf8.first", laid_unicode_utf8_first)], narrowed := true }
def ConcordTextsUptoSaid : Prop := concordTextsUptoRow.holds Tryd.pinned (OpenSpec.upto concordTextsSpec)

/-- 'langdoclaw39.ConcordAligned', WHERE WHAT IT READS IS OF BULK AT MOST 1048576: true; the input reads as it did. -/
def concordAlignedUptoRow : OpenClaim := { program := "ytdpllfgnppeneaadoor", sum := "a6178ccb7492e3d4c9cfee722ab4e2ef2f2d74813c0a38586160eda91356858d", func := "langdoc/langdoclaw39.ConcordAligned", spec := "concordAligned", inPlace := ["internal/abi.NoEscape", "internal/bytealg.MakeNoZero"], unfollowed := true, recurses := true, named := ["unicode/utf8.first", "unicode/utf8.acceptRanges"], apart := false, laid := [("unicode/utf8.acceptRanges", laid_unicode_utf8_acceptRanges), ("unicode/utf8.first", laid_unicode_utf8_first)], narrowed := true }
def ConcordAlignedUptoSaid : Prop := concordAlignedUptoRow.holds Tryd.pinned (OpenSpec.upto concordAlignedSpec)

end Rows
end Go.Proofs.YtdpllfgnppeneaaDoor
