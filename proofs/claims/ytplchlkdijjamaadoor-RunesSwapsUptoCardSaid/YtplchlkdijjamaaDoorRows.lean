/-
  NARROWER THAN 'FOR EVERY INPUT', by the rows' own cells (each row's printed sentence says how): RunesPoints: laid · RunesOf: laid · RunesClass: laid · RunesClusters: laid · RunesOrders: laid · RunesWhole: laid · RunesBack: laid · RunesAdds: laid · RunesSwaps: laid.
  DERIVED. THE GIVEN ROWS OF THIS SEAT. 9 by the template 'for every input the law returns true; each argument reads behind the call as it read before'; 0 by the template 'total and deterministic' (their statements: YtplchlkdijjamaaDoorTotals.lean).
  GIVEN WITH THE SEED: the statements are not yours to turn. If you find one false, say at which input.
  Laid BY PROGRAM, IN A SANDBOX (cutbox-rows.mjs): the forced cells as the released guide's own fill.sh prints them over the translation ba6584fff68b7e6b… (all of the seat's roots in one cut). By AI agents, Wed Nov 11 2026. No macro, syntax, notation, axiom, sorry.
-/
import Derived.Test.YtplchlkdijjamaaDoorChecked
import GoSem.PinnedTables
import GoSem.Claim
import GoSem.ClaimJoined
import GoSem.ClaimMapViews
import Derived.JoinedTies
import Derived.KernelRfl
namespace Go.Proofs.YtplchlkdijjamaaDoor
/- THE CELL 'sum', in the pinned program and in every row, IS THE sha256 OF THE DUMP (.gsa) THAT YtplchlkdijjamaaDoorProg.lean LOADS. Nothing in Lean hashes anything: it is a label: what it is worth is what the hold of that sum in a sandbox is worth. -/
noncomputable def Tryd.pinned : Pinned := { name := "ytplchlkdijjamaadoor", sum := "ba6584fff68b7e6b468576a3bf418f3faa4f535cbca30649cfe6d197f6b0ef04", checked := Tryd.checked }
namespace Rows
def none {H : Type} : Left H := { results := [], args := [] }

/- WHAT THE LISTED PACKAGE-LEVEL VARIABLES READ AS WHEN THE CALL BEGINS. Each datum BY PROGRAM (the guide's laid-datum.mjs) off the statement by which the dump's own 'gosem.cut.vars' lays the variable. In a bare row this is a premise. The card (YtplchlkdijjamaaDoorCards.lean) ties it to the program's text. -/
def laid_unicode_utf8_acceptRanges {H : Type} : DataW H := .agg [.agg [.lit (.int .u8 128), .lit (.int .u8 191)], .agg [.lit (.int .u8 160), .lit (.int .u8 191)], .agg [.lit (.int .u8 128), .lit (.int .u8 159)], .agg [.lit (.int .u8 144), .lit (.int .u8 191)], .agg [.lit (.int .u8 128), .lit (.int .u8 143)], .agg [.lit (.int .u8 0), .lit (.int .u8 0)], .agg [.lit (.int .u8 0), .lit (.int .u8 0)], .agg [.lit (.int .u8 0), .lit (.int .u8 0)], .agg [.lit (.int .u8 0), .lit (.int .u8 0)], .agg [.lit (.int .u8 0), .lit (.int .u8 0)], .agg [.lit (.int .u8 0), .lit (.int .u8 0)], .agg [.lit (.int .u8 0), .lit (.int .u8 0)], .agg [.lit (.int .u8 0), .lit (.int .u8 0)], .agg [.lit (.int .u8 0), .lit (.int .u8 0)], .agg [.lit (.int .u8 0), .lit (.int .u8 0)], .agg [.lit (.int .u8 0), .lit (.int .u8 0)]]
/-- One of Go's own tables, pinned by name: the form's constant. -/
def laid_unicode_utf8_first : DataW Unit := Go.Pinned.utf8First

/-- 'langdoclaw02.RunesPoints': WHATEVER THE INPUT: true; the input reads as it did. -/
def runesPointsSpec : ChangeSpec := { name := "runesPoints", fn := fun _ => fun
  | [d] => { results := [.lit (.bool true)], args := [d] }
  | _ => none }
def runesPointsRow : OpenClaim := { program := "ytplchlkdijjamaadoor", sum := "ba6584fff68b7e6b468576a3bf418f3faa4f535cbca30649cfe6d197f6b0ef04", func := "langdoc/langdoclaw02.RunesPoints", spec := "runesPoints", unfollowed := true, recurses := true, named := ["unicode/utf8.first", "unicode/utf8.acceptRanges"], apart := false, laid := [("unicode/utf8.acceptRanges", laid_unicode_utf8_acceptRanges), ("unicode/utf8.first", laid_unicode_utf8_first)] }
def RunesPointsSaid : Prop := runesPointsRow.holds Tryd.pinned (OpenSpec.ofChange runesPointsSpec)

/-- ITS FALSE NEIGHBOUR: 'it returns false'. Refute it at one input. -/
def runesPointsWrong : ChangeSpec := { name := "runesPoints", fn := fun _ => fun
  | [d] => { results := [.lit (.bool false)], args := [d] }
  | _ => none }
def RunesPointsWrongFalsely : Prop := runesPointsRow.holds Tryd.pinned (OpenSpec.ofChange runesPointsWrong)

/-- 'langdoclaw02.RunesOf': WHATEVER THE INPUT: true; the input reads as it did. -/
def runesOfSpec : ChangeSpec := { name := "runesOf", fn := fun _ => fun
  | [d] => { results := [.lit (.bool true)], args := [d] }
  | _ => none }
def runesOfRow : OpenClaim := { program := "ytplchlkdijjamaadoor", sum := "ba6584fff68b7e6b468576a3bf418f3faa4f535cbca30649cfe6d197f6b0ef04", func := "langdoc/langdoclaw02.RunesOf", spec := "runesOf", unfollowed := true, recurses := true, named := ["unicode/utf8.first", "unicode/utf8.acceptRanges"], apart := false, laid := [("unicode/utf8.acceptRanges", laid_unicode_utf8_acceptRanges), ("unicode/utf8.first", laid_unicode_utf8_first)] }
def RunesOfSaid : Prop := runesOfRow.holds Tryd.pinned (OpenSpec.ofChange runesOfSpec)

/-- ITS FALSE NEIGHBOUR: 'it returns false'. Refute it at one input. -/
def runesOfWrong : ChangeSpec := { name := "runesOf", fn := fun _ => fun
  | [d] => { results := [.lit (.bool false)], args := [d] }
  | _ => none }
def RunesOfWrongFalsely : Prop := runesOfRow.holds Tryd.pinned (OpenSpec.ofChange runesOfWrong)

/-- 'langdoclaw02.RunesClass': WHATEVER THE INPUT: true; the input reads as it did. -/
def runesClassSpec : ChangeSpec := { name := "runesClass", fn := fun _ => fun
  | [d] => { results := [.lit (.bool true)], args := [d] }
  | _ => none }
def runesClassRow : OpenClaim := { program := "ytplchlkdijjamaadoor", sum := "ba6584fff68b7e6b468576a3bf418f3faa4f535cbca30649cfe6d197f6b0ef04", func := "langdoc/langdoclaw02.RunesClass", spec := "runesClass", unfollowed := true, recurses := true, named := ["unicode/utf8.first", "unicode/utf8.acceptRanges"], apart := false, laid := [("unicode/utf8.acceptRanges", laid_unicode_utf8_acceptRanges), ("unicode/utf8.first", laid_unicode_utf8_first)] }
def RunesClassSaid : Prop := runesClassRow.holds Tryd.pinned (OpenSpec.ofChange runesClassSpec)

/-- ITS FALSE NEIGHBOUR: 'it returns false'. Refute it at one input. -/
def runesClassWrong : ChangeSpec := { name := "runesClass", fn := fun _ => fun
  | [d] => { results := [.lit (.bool false)], args := [d] }
  | _ => none }
def RunesClassWrongFalsely : Prop := runesClassRow.holds Tryd.pinned (OpenSpec.ofChange runesClassWrong)

/-- 'langdoclaw02.RunesClusters': WHATEVER THE INPUT: true; the input reads as it did. -/
def runesClustersSpec : ChangeSpec := { name := "runesClusters", fn := fun _ => fun
  | [d] => { results := [.lit (.bool true)], args := [d] }
  | _ => none }
def runesClustersRow : OpenClaim := { program := "ytplchlkdijjamaadoor", sum := "ba6584fff68b7e6b468576a3bf418f3faa4f535cbca30649cfe6d197f6b0ef04", func := "langdoc/langdoclaw02.RunesClusters", spec := "runesClusters", unfollowed := true, recurses := true, named := ["unicode/utf8.first", "unicode/utf8.acceptRanges"], apart := false, laid := [("unicode/utf8.acceptRanges", laid_unicode_utf8_acceptRanges), ("unicode/utf8.first", laid_unicode_utf8_first)] }
def RunesClustersSaid : Prop := runesClustersRow.holds Tryd.pinned (OpenSpec.ofChange runesClustersSpec)

/-- ITS FALSE NEIGHBOUR: 'it returns false'. Refute it at one input. -/
def runesClustersWrong : ChangeSpec := { name := "runesClusters", fn := fun _ => fun
  | [d] => { results := [.lit (.bool false)], args := [d] }
  | _ => none }
def RunesClustersWrongFalsely : Prop := runesClustersRow.holds Tryd.pinned (OpenSpec.ofChange runesClustersWrong)

/-- 'langdoclaw02.RunesOrders': WHATEVER THE INPUT: true; the input reads as it did. -/
def runesOrdersSpec : ChangeSpec := { name := "runesOrders", fn := fun _ => fun
  | [d1, d2] => { results := [.lit (.bool true)], args := [d1, d2] }
  | _ => none }
def runesOrdersRow : OpenClaim := { program := "ytplchlkdijjamaadoor", sum := "ba6584fff68b7e6b468576a3bf418f3faa4f535cbca30649cfe6d197f6b0ef04", func := "langdoc/langdoclaw02.RunesOrders", spec := "runesOrders", unfollowed := true, recurses := true, named := ["unicode/utf8.first", "unicode/utf8.acceptRanges"], apart := false, laid := [("unicode/utf8.acceptRanges", laid_unicode_utf8_acceptRanges), ("unicode/utf8.first", laid_unicode_utf8_first)] }
def RunesOrdersSaid : Prop := runesOrdersRow.holds Tryd.pinned (OpenSpec.ofChange runesOrdersSpec)

/-- ITS FALSE NEIGHBOUR: 'it returns false'. Refute it at one input. -/
def runesOrdersWrong : ChangeSpec := { name := "runesOrders", fn := fun _ => fun
  | [d1, d2] => { results := [.lit (.bool false)], args := [d1, d2] }
  | _ => none }
def RunesOrdersWrongFalsely : Prop := runesOrdersRow.holds Tryd.pinned (OpenSpec.ofChange runesOrdersWrong)

/-- 'langdoclaw02.RunesWhole': WHATEVER THE INPUT: true; the input reads as it did. -/
def runesWholeSpec : ChangeSpec := { name := "runesWhole", fn := fun _ => fun
  | [d] => { results := [.lit (.bool true)], args := [d] }
  | _ => none }
def runesWholeRow : OpenClaim := { program := "ytplchlkdijjamaadoor", sum := "ba6584fff68b7e6b468576a3bf418f3faa4f535cbca30649cfe6d197f6b0ef04", func := "langdoc/langdoclaw02.RunesWhole", spec := "runesWhole", unfollowed := true, recurses := true, named := ["unicode/utf8.first", "unicode/utf8.acceptRanges"], apart := false, laid := [("unicode/utf8.acceptRanges", laid_unicode_utf8_acceptRanges), ("unicode/utf8.first", laid_unicode_utf8_first)] }
def RunesWholeSaid : Prop := runesWholeRow.holds Tryd.pinned (OpenSpec.ofChange runesWholeSpec)

/-- ITS FALSE NEIGHBOUR: 'it returns false'. Refute it at one input. -/
def runesWholeWrong : ChangeSpec := { name := "runesWhole", fn := fun _ => fun
  | [d] => { results := [.lit (.bool false)], args := [d] }
  | _ => none }
def RunesWholeWrongFalsely : Prop := runesWholeRow.holds Tryd.pinned (OpenSpec.ofChange runesWholeWrong)

/-- 'langdoclaw02.RunesBack': WHATEVER THE INPUT: true; the input reads as it did. -/
def runesBackSpec : ChangeSpec := { name := "runesBack", fn := fun _ => fun
  | [d1, d2] => { results := [.lit (.bool true)], args := [d1, d2] }
  | _ => none }
def runesBackRow : OpenClaim := { program := "ytplchlkdijjamaadoor", sum := "ba6584fff68b7e6b468576a3bf418f3faa4f535cbca30649cfe6d197f6b0ef04", func := "langdoc/langdoclaw02.RunesBack", spec := "runesBack", unfollowed := true, recurses := true, named := ["unicode/utf8.first", "unicode/utf8.acceptRanges"], apart := false, laid := [("unicode/utf8.acceptRanges", laid_unicode_utf8_acceptRanges), ("unicode/utf8.first", laid_unicode_utf8_first)] }
def RunesBackSaid : Prop := runesBackRow.holds Tryd.pinned (OpenSpec.ofChange runesBackSpec)

/-- ITS FALSE NEIGHBOUR: 'it returns false'. Refute it at one input. -/
def runesBackWrong : ChangeSpec := { name := "runesBack", fn := fun _ => fun
  | [d1, d2] => { results := [.lit (.bool false)], args := [d1, d2] }
  | _ => none }
def RunesBackWrongFalsely : Prop := runesBackRow.holds Tryd.pinned (OpenSpec.ofChange runesBackWrong)

/-- 'langdoclaw02.RunesAdds': WHATEVER THE INPUT: true; the input reads as it did. -/
def runesAddsSpec : ChangeSpec := { name := "runesAdds", fn := fun _ => fun
  | [d1, d2] => { results := [.lit (.bool true)], args := [d1, d2] }
  | _ => none }
def runesAddsRow : OpenClaim := { program := "ytplchlkdijjamaadoor", sum := "ba6584fff68b7e6b468576a3bf418f3faa4f535cbca30649cfe6d197f6b0ef04", func := "langdoc/langdoclaw02.RunesAdds", spec := "runesAdds", unfollowed := true, recurses := true, named := ["unicode/utf8.first", "unicode/utf8.acceptRanges"], apart := false, laid := [("unicode/utf8.acceptRanges", laid_unicode_utf8_acceptRanges), ("unicode/utf8.first", laid_unicode_utf8_first)] }
def RunesAddsSaid : Prop := runesAddsRow.holds Tryd.pinned (OpenSpec.ofChange runesAddsSpec)

/-- ITS FALSE NEIGHBOUR: 'it returns false'. Refute it at one input. -/
def runesAddsWrong : ChangeSpec := { name := "runesAdds", fn := fun _ => fun
  | [d1, d2] => { results := [.lit (.bool false)], args := [d1, d2] }
  | _ => none }
def RunesAddsWrongFalsely : Prop := runesAddsRow.holds Tryd.pinned (OpenSpec.ofChange runesAddsWrong)

/-- 'langdoclaw02.RunesSwaps': WHATEVER THE INPUT: true; the input reads as it did. -/
def runesSwapsSpec : ChangeSpec := { name := "runesSwaps", fn := fun _ => fun
  | [d1, d2, d3] => { results := [.lit (.bool true)], args := [d1, d2, d3] }
  | _ => none }
def runesSwapsRow : OpenClaim := { program := "ytplchlkdijjamaadoor", sum := "ba6584fff68b7e6b468576a3bf418f3faa4f535cbca30649cfe6d197f6b0ef04", func := "langdoc/langdoclaw02.RunesSwaps", spec := "runesSwaps", unfollowed := true, recurses := true, named := ["unicode/utf8.first", "unicode/utf8.acceptRanges"], apart := false, laid := [("unicode/utf8.acceptRanges", laid_unicode_utf8_acceptRanges), ("unicode/utf8.first", laid_unicode_utf8_first)] }
def RunesSwapsSaid : Prop := runesSwapsRow.holds Tryd.pinned (OpenSpec.ofChange runesSwapsSpec)

/-- ITS FALSE NEIGHBOUR: 'it returns false'. Refute it at one input. -/
def runesSwapsWrong : ChangeSpec := { name := "runesSwaps", fn := fun _ => fun
  | [d1, d2, d3] => { results := [.lit (.bool false)], args := [d1, d2, d3] }
  | _ => none }
def RunesSwapsWrongFalsely : Prop := runesSwapsRow.holds Tryd.pinned (OpenSpec.ofChange runesSwapsWrong)

/- THE SECOND FORM. 'bulk': how many values and letters a reading holds, each counted each time it is reached (what is shared counts as often as it is met; a slice's spare places count too). A statement '..UptoSaid' is the law's where the arguments, and the package variables that the reading takes, are together of bulk at most 1048576: NARROWER than '..Said'. Prove '..Said' where nothing that the law and all that it calls make is longer than what came in: it says more and counts as full. Else prove '..UptoSaid'. A law counts once. -/
mutual
def uptoBulk {H : Type} : DataW H → Nat
  | .lit (.string bytes) => bytes.length + 1
  | .lit _ => 1
  | .nil => 1
  | .ptr d => uptoBulk d + 1
  | .slice elems spare => uptoBulkAll elems + uptoBulkAll spare + 1
  | .agg parts => uptoBulkAll parts + 1
  | .iface _ d => uptoBulk d + 1
  | .map entries => uptoBulkEntries entries + 1
  | .held _ => 1
def uptoBulkAll {H : Type} : List (DataW H) → Nat
  | [] => 0
  | d :: r => uptoBulk d + uptoBulkAll r
def uptoBulkEntries {H : Type} : List (Lit × DataW H) → Nat
  | [] => 0
  | x :: r => uptoBulkEntry x + uptoBulkEntries r
def uptoBulkEntry {H : Type} : Lit × DataW H → Nat
  | (.string bytes, d) => bytes.length + uptoBulk d + 1
  | (_, d) => uptoBulk d + 1
 end
def uptoSmall : (H : Type) → List (DataW H) → Bool := fun _ ds => decide (uptoBulkAll ds ≤ 1048576)
def OpenSpec.upto (s : _root_.Go.ChangeSpec) : _root_.Go.OpenSpec := { _root_.Go.OpenSpec.ofChange s with cond := some uptoSmall }

/-- 'langdoclaw02.RunesPoints', WHERE WHAT IT READS IS OF BULK AT MOST 1048576: true; the input reads as it did. -/
def runesPointsUptoRow : OpenClaim := { program := "ytplchlkdijjamaadoor", sum := "ba6584fff68b7e6b468576a3bf418f3faa4f535cbca30649cfe6d197f6b0ef04", func := "langdoc/langdoclaw02.RunesPoints", spec := "runesPoints", unfollowed := true, recurses := true, named := ["unicode/utf8.first", "unicode/utf8.acceptRanges"], apart := false, laid := [("unicode/utf8.acceptRanges", laid_unicode_utf8_acceptRanges), ("unicode/utf8.first", laid_unicode_utf8_first)], narrowed := true }
def RunesPointsUptoSaid : Prop := runesPointsUptoRow.holds Tryd.pinned (OpenSpec.upto runesPointsSpec)

/-- 'langdoclaw02.RunesOf', WHERE WHAT IT READS IS OF BULK AT MOST 1048576: true; the input reads as it did. -/
def runesOfUptoRow : OpenClaim := { program := "ytplchlkdijjamaadoor", sum := "ba6584fff68b7e6b468576a3bf418f3faa4f535cbca30649cfe6d197f6b0ef04", func := "langdoc/langdoclaw02.RunesOf", spec := "runesOf", unfollowed := true, recurses := true, named := ["unicode/utf8.first", "unicode/utf8.acceptRanges"], apart := false, laid := [("unicode/utf8.acceptRanges", laid_unicode_utf8_acceptRanges), ("unicode/utf8.first", laid_unicode_utf8_first)], narrowed := true }
def RunesOfUptoSaid : Prop := runesOfUptoRow.holds Tryd.pinned (OpenSpec.upto runesOfSpec)

/-- 'langdoclaw02.RunesClass', WHERE WHAT IT READS IS OF BULK AT MOST 1048576: true; the input reads as it did. -/
def runesClassUptoRow : OpenClaim := { program := "ytplchlkdijjamaadoor", sum := "ba6584fff68b7e6b468576a3bf418f3faa4f535cbca30649cfe6d197f6b0ef04", func := "langdoc/langdoclaw02.RunesClass", spec := "runesClass", unfollowed := true, recurses := true, named := ["unicode/utf8.first", "unicode/utf8.acceptRanges"], apart := false, laid := [("unicode/utf8.acceptRanges", laid_unicode_utf8_acceptRanges), ("unicode/utf8.first", laid_unicode_utf8_first)], narrowed := true }
def RunesClassUptoSaid : Prop := runesClassUptoRow.holds Tryd.pinned (OpenSpec.upto runesClassSpec)

/-- 'langdoclaw02.RunesClusters', WHERE WHAT IT READS IS OF BULK AT MOST 1048576: true; the input reads as it did. -/
def runesClustersUptoRow : OpenClaim := { program := "ytplchlkdijjamaadoor", sum := "ba6584fff68b7e6b468576a3bf418f3faa4f535cbca30649cfe6d197f6b0ef04", func := "langdoc/langdoclaw02.RunesClusters", spec := "runesClusters", unfollowed := true, recurses := true, named := ["unicode/utf8.first", "unicode/utf8.acceptRanges"], apart := false, laid := [("unicode/utf8.acceptRanges", laid_unicode_utf8_acceptRanges), ("unicode/utf8.first", laid_unicode_utf8_first)], narrowed := true }
def RunesClustersUptoSaid : Prop := runesClustersUptoRow.holds Tryd.pinned (OpenSpec.upto runesClustersSpec)

/-- 'langdoclaw02.RunesOrders', WHERE WHAT IT READS IS OF BULK AT MOST 1048576: true; the input reads as it did. -/
def runesOrdersUptoRow : OpenClaim := { program := "ytplchlkdijjamaadoor", sum := "ba6584fff68b7e6b468576a3bf418f3faa4f535cbca30649cfe6d197f6b0ef04", func := "langdoc/langdoclaw02.RunesOrders", spec := "runesOrders", unfollowed := true, recurses := true, named := ["unicode/utf8.first", "unicode/utf8.acceptRanges"], apart := false, laid := [("unicode/utf8.acceptRanges", laid_unicode_utf8_acceptRanges), ("unicode/utf8.first", laid_unicode_utf8_first)], narrowed := true }
def RunesOrdersUptoSaid : Prop := runesOrdersUptoRow.holds Tryd.pinned (OpenSpec.upto runesOrdersSpec)

/-- 'langdoclaw02.RunesWhole', WHERE WHAT IT READS IS OF BULK AT MOST 1048576: true; the input reads as it did. -/
def runesWholeUptoRow : OpenClaim := { program := "ytplchlkdijjamaadoor", sum := "ba6584fff68b7e6b468576a3bf418f3faa4f535cbca30649cfe6d197f6b0ef04", func := "langdoc/langdoclaw02.RunesWhole", spec := "runesWhole", unfollowed := true, recurses := true, named := ["unicode/utf8.first", "unicode/utf8.acceptRanges"], apart := false, laid := [("unicode/utf8.acceptRanges", laid_unicode_utf8_acceptRanges), ("unicode/utf8.first", laid_unicode_utf8_first)], narrowed := true }
def RunesWholeUptoSaid : Prop := runesWholeUptoRow.holds Tryd.pinned (OpenSpec.upto runesWholeSpec)

/-- 'langdoclaw02.RunesBack', WHERE WHAT IT READS IS OF BULK AT MOST 1048576: true; the input reads as it did. -/
def runesBackUptoRow : OpenClaim := { program := "ytplchlkdijjamaadoor", sum := "ba6584fff68b7e6b468576a3bf418f3faa4f535cbca30649cfe6d197f6b0ef04", func := "langdoc/langdoclaw02.RunesBack", spec := "runesBack", unfollowed := true, recurses := true, named := ["unicode/utf8.first", "unicode/utf8.acceptRanges"], apart := false, laid := [("unicode/utf8.acceptRanges", laid_unicode_utf8_acceptRanges), ("unicode/utf8.first", laid_unicode_utf8_first)], narrowed := true }
def RunesBackUptoSaid : Prop := runesBackUptoRow.holds Tryd.pinned (OpenSpec.upto runesBackSpec)

/-- 'langdoclaw02.RunesAdds', WHERE WHAT IT READS IS OF BULK AT MOST 1048576: true; the input reads as it did. -/
def runesAddsUptoRow : OpenClaim := { program := "ytplchlkdijjamaadoor", sum := "ba6584fff68b7e6b468576a3bf418f3faa4f535cbca30649cfe6d197f6b0ef04", func := "langdoc/langdoclaw02.RunesAdds", spec := "runesAdds", unfollowed := true, recurses := true, named := ["unicode/utf8.first", "unicode/utf8.acceptRanges"], apart := false, laid := [("unicode/utf8.acceptRanges", laid_unicode_utf8_acceptRanges), ("unicode/utf8.first", laid_unicode_utf8_first)], narrowed := true }
def RunesAddsUptoSaid : Prop := runesAddsUptoRow.holds Tryd.pinned (OpenSpec.upto runesAddsSpec)

/-- 'langdoclaw02.RunesSwaps', WHERE WHAT IT READS IS OF BULK AT MOST 1048576: true; the input reads as it did. -/
def runesSwapsUptoRow : OpenClaim := { program := "ytplchlkdijjamaadoor", sum := "ba6584fff68b7e6b468576a3bf418f3faa4f535cbca30649cfe6d197f6b0ef04", func := "langdoc/langdoclaw02.RunesSwaps", spec := "runesSwaps", unfollowed := true, recurses := true, named := ["unicode/utf8.first", "unicode/utf8.acceptRanges"], apart := false, laid := [("unicode/utf8.acceptRanges", laid_unicode_utf8_acceptRanges), ("unicode/utf8.first", laid_unicode_utf8_first)], narrowed := true }
def RunesSwapsUptoSaid : Prop := runesSwapsUptoRow.holds Tryd.pinned (OpenSpec.upto runesSwapsSpec)

end Rows
end Go.Proofs.YtplchlkdijjamaaDoor
