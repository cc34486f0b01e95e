/-
  NARROWER THAN 'FOR EVERY INPUT', by the rows' own cells (each row's printed sentence says how): LayoutWidth: laid · LayoutColumns: laid · LayoutGroups: laid · LayoutAligns: laid · LayoutWraps: laid · LayoutPads: laid · LayoutParts: laid · LayoutStraight: laid · LayoutFits: laid.
  DERIVED. THE GIVEN ROWS OF THIS SEAT. 9 by the template 'for every input the law returns true; each argument reads behind the call as it read before'; 0 by the template 'total and deterministic' (their statements: YtacfeabdeaikhaaDoorTotals.lean).
  GIVEN WITH THE SEED: the statements are not yours to turn. If you find one false, say at which input.
  Laid BY PROGRAM, IN A SANDBOX (cutbox-rows.mjs): the forced cells as the released guide's own fill.sh prints them over the translation 5f93e2ac8904653b… (all of the seat's roots in one cut). By AI agents, Wed Nov 11 2026. No macro, syntax, notation, axiom, sorry.
-/
import Derived.Test.YtacfeabdeaikhaaDoorChecked
import GoSem.PinnedTables
import GoSem.Claim
import GoSem.ClaimJoined
import GoSem.ClaimMapViews
import Derived.JoinedTies
import Derived.KernelRfl
namespace Go.Proofs.YtacfeabdeaikhaaDoor
/- THE CELL 'sum', in the pinned program and in every row, IS THE sha256 OF THE DUMP (.gsa) THAT YtacfeabdeaikhaaDoorProg.lean LOADS. Nothing in Lean hashes anything: it is a label: what it is worth is what the hold of that sum in a sandbox is worth. -/
noncomputable def Tryd.pinned : Pinned := { name := "ytacfeabdeaikhaadoor", sum := "5f93e2ac8904653b878764e68e92d8b298dd0ff058146d9579e7a8fb24c7e7da", checked := Tryd.checked }
namespace Rows
def none {H : Type} : Left H := { results := [], args := [] }

/- WHAT THE LISTED PACKAGE-LEVEL VARIABLES READ AS WHEN THE CALL BEGINS. Each datum BY PROGRAM (the guide's laid-datum.mjs) off the statement by which the dump's own 'gosem.cut.vars' lays the variable. In a bare row this is a premise. The card (YtacfeabdeaikhaaDoorCards.lean) ties it to the program's text. -/
def laid_unicode_utf8_acceptRanges {H : Type} : DataW H := .agg [.agg [.lit (.int .u8 128), .lit (.int .u8 191)], .agg [.lit (.int .u8 160), .lit (.int .u8 191)], .agg [.lit (.int .u8 128), .lit (.int .u8 159)], .agg [.lit (.int .u8 144), .lit (.int .u8 191)], .agg [.lit (.int .u8 128), .lit (.int .u8 143)], .agg [.lit (.int .u8 0), .lit (.int .u8 0)], .agg [.lit (.int .u8 0), .lit (.int .u8 0)], .agg [.lit (.int .u8 0), .lit (.int .u8 0)], .agg [.lit (.int .u8 0), .lit (.int .u8 0)], .agg [.lit (.int .u8 0), .lit (.int .u8 0)], .agg [.lit (.int .u8 0), .lit (.int .u8 0)], .agg [.lit (.int .u8 0), .lit (.int .u8 0)], .agg [.lit (.int .u8 0), .lit (.int .u8 0)], .agg [.lit (.int .u8 0), .lit (.int .u8 0)], .agg [.lit (.int .u8 0), .lit (.int .u8 0)], .agg [.lit (.int .u8 0), .lit (.int .u8 0)]]
/-- One of Go's own tables, pinned by name: the form's constant. -/
def laid_unicode_utf8_first : DataW Unit := Go.Pinned.utf8First

/-- 'langdoclaw33.LayoutWidth': WHATEVER THE INPUT: true; the input reads as it did. -/
def layoutWidthSpec : ChangeSpec := { name := "layoutWidth", fn := fun _ => fun
  | [d1, d2] => { results := [.lit (.bool true)], args := [d1, d2] }
  | _ => none }
def layoutWidthRow : OpenClaim := { program := "ytacfeabdeaikhaadoor", sum := "5f93e2ac8904653b878764e68e92d8b298dd0ff058146d9579e7a8fb24c7e7da", func := "langdoc/langdoclaw33.LayoutWidth", spec := "layoutWidth", inPlace := ["internal/abi.NoEscape", "internal/bytealg.MakeNoZero", "internal/bytealg.IndexByteString", "internal/bytealg.IndexString"], unfollowed := true, recurses := true, named := ["unicode/utf8.first", "unicode/utf8.acceptRanges", "internal/bytealg.MaxLen"], apart := false, laid := [("unicode/utf8.acceptRanges", laid_unicode_utf8_acceptRanges), ("unicode/utf8.first", laid_unicode_utf8_first)] }
def LayoutWidthSaid : Prop := layoutWidthRow.holds Tryd.pinned (OpenSpec.ofChange layoutWidthSpec)

/-- ITS FALSE NEIGHBOUR: 'it returns false'. Refute it at one input. -/
def layoutWidthWrong : ChangeSpec := { name := "layoutWidth", fn := fun _ => fun
  | [d1, d2] => { results := [.lit (.bool false)], args := [d1, d2] }
  | _ => none }
def LayoutWidthWrongFalsely : Prop := layoutWidthRow.holds Tryd.pinned (OpenSpec.ofChange layoutWidthWrong)

/-- 'langdoclaw33.LayoutColumns': WHATEVER THE INPUT: true; the input reads as it did. -/
def layoutColumnsSpec : ChangeSpec := { name := "layoutColumns", fn := fun _ => fun
  | [d] => { results := [.lit (.bool true)], args := [d] }
  | _ => none }
def layoutColumnsRow : OpenClaim := { program := "ytacfeabdeaikhaadoor", sum := "5f93e2ac8904653b878764e68e92d8b298dd0ff058146d9579e7a8fb24c7e7da", func := "langdoc/langdoclaw33.LayoutColumns", spec := "layoutColumns", inPlace := ["internal/abi.NoEscape", "internal/bytealg.MakeNoZero", "internal/bytealg.IndexByteString", "internal/bytealg.IndexString"], unfollowed := true, recurses := true, named := ["unicode/utf8.first", "unicode/utf8.acceptRanges", "internal/bytealg.MaxLen"], apart := false, laid := [("unicode/utf8.acceptRanges", laid_unicode_utf8_acceptRanges), ("unicode/utf8.first", laid_unicode_utf8_first)] }
def LayoutColumnsSaid : Prop := layoutColumnsRow.holds Tryd.pinned (OpenSpec.ofChange layoutColumnsSpec)

/-- ITS FALSE NEIGHBOUR: 'it returns false'. Refute it at one input. -/
def layoutColumnsWrong : ChangeSpec := { name := "layoutColumns", fn := fun _ => fun
  | [d] => { results := [.lit (.bool false)], args := [d] }
  | _ => none }
def LayoutColumnsWrongFalsely : Prop := layoutColumnsRow.holds Tryd.pinned (OpenSpec.ofChange layoutColumnsWrong)

/-- 'langdoclaw33.LayoutGroups': WHATEVER THE INPUT: true; the input reads as it did. -/
def layoutGroupsSpec : ChangeSpec := { name := "layoutGroups", fn := fun _ => fun
  | [d1, d2] => { results := [.lit (.bool true)], args := [d1, d2] }
  | _ => none }
def layoutGroupsRow : OpenClaim := { program := "ytacfeabdeaikhaadoor", sum := "5f93e2ac8904653b878764e68e92d8b298dd0ff058146d9579e7a8fb24c7e7da", func := "langdoc/langdoclaw33.LayoutGroups", spec := "layoutGroups", inPlace := ["internal/abi.NoEscape", "internal/bytealg.MakeNoZero", "internal/bytealg.IndexByteString", "internal/bytealg.IndexString"], unfollowed := true, recurses := true, named := ["unicode/utf8.first", "unicode/utf8.acceptRanges", "internal/bytealg.MaxLen"], apart := false, laid := [("unicode/utf8.acceptRanges", laid_unicode_utf8_acceptRanges), ("unicode/utf8.first", laid_unicode_utf8_first)] }
def LayoutGroupsSaid : Prop := layoutGroupsRow.holds Tryd.pinned (OpenSpec.ofChange layoutGroupsSpec)

/-- ITS FALSE NEIGHBOUR: 'it returns false'. Refute it at one input. -/
def layoutGroupsWrong : ChangeSpec := { name := "layoutGroups", fn := fun _ => fun
  | [d1, d2] => { results := [.lit (.bool false)], args := [d1, d2] }
  | _ => none }
def LayoutGroupsWrongFalsely : Prop := layoutGroupsRow.holds Tryd.pinned (OpenSpec.ofChange layoutGroupsWrong)

/-- 'langdoclaw33.LayoutAligns': WHATEVER THE INPUT: true; the input reads as it did. -/
def layoutAlignsSpec : ChangeSpec := { name := "layoutAligns", fn := fun _ => fun
  | [d] => { results := [.lit (.bool true)], args := [d] }
  | _ => none }
def layoutAlignsRow : OpenClaim := { program := "ytacfeabdeaikhaadoor", sum := "5f93e2ac8904653b878764e68e92d8b298dd0ff058146d9579e7a8fb24c7e7da", func := "langdoc/langdoclaw33.LayoutAligns", spec := "layoutAligns", inPlace := ["internal/abi.NoEscape", "internal/bytealg.MakeNoZero", "internal/bytealg.IndexByteString", "internal/bytealg.IndexString"], unfollowed := true, recurses := true, named := ["unicode/utf8.first", "unicode/utf8.acceptRanges", "internal/bytealg.MaxLen"], apart := false, laid := [("unicode/utf8.acceptRanges", laid_unicode_utf8_acceptRanges), ("unicode/utf8.first", laid_unicode_utf8_first)] }
def LayoutAlignsSaid : Prop := layoutAlignsRow.holds Tryd.pinned (OpenSpec.ofChange layoutAlignsSpec)

/-- ITS FALSE NEIGHBOUR: 'it returns false'. Refute it at one input. -/
def layoutAlignsWrong : ChangeSpec := { name := "layoutAligns", fn := fun _ => fun
  | [d] => { results := [.lit (.bool false)], args := [d] }
  | _ => none }
def LayoutAlignsWrongFalsely : Prop := layoutAlignsRow.holds Tryd.pinned (OpenSpec.ofChange layoutAlignsWrong)

/-- 'langdoclaw33.LayoutWraps': WHATEVER THE INPUT: true; the input reads as it did. -/
def layoutWrapsSpec : ChangeSpec := { name := "layoutWraps", fn := fun _ => fun
  | [d1, d2] => { results := [.lit (.bool true)], args := [d1, d2] }
  | _ => none }
def layoutWrapsRow : OpenClaim := { program := "ytacfeabdeaikhaadoor", sum := "5f93e2ac8904653b878764e68e92d8b298dd0ff058146d9579e7a8fb24c7e7da", func := "langdoc/langdoclaw33.LayoutWraps", spec := "layoutWraps", inPlace := ["internal/abi.NoEscape", "internal/bytealg.MakeNoZero", "internal/bytealg.IndexByteString", "internal/bytealg.IndexString"], unfollowed := true, recurses := true, named := ["unicode/utf8.first", "unicode/utf8.acceptRanges", "internal/bytealg.MaxLen"], apart := false, laid := [("unicode/utf8.acceptRanges", laid_unicode_utf8_acceptRanges), ("unicode/utf8.first", laid_unicode_utf8_first)] }
def LayoutWrapsSaid : Prop := layoutWrapsRow.holds Tryd.pinned (OpenSpec.ofChange layoutWrapsSpec)

/-- ITS FALSE NEIGHBOUR: 'it returns false'. Refute it at one input. -/
def layoutWrapsWrong : ChangeSpec := { name := "layoutWraps", fn := fun _ => fun
  | [d1, d2] => { results := [.lit (.bool false)], args := [d1, d2] }
  | _ => none }
def LayoutWrapsWrongFalsely : Prop := layoutWrapsRow.holds Tryd.pinned (OpenSpec.ofChange layoutWrapsWrong)

/-- 'langdoclaw33.LayoutPads': WHATEVER THE INPUT: true; the input reads as it did. -/
def layoutPadsSpec : ChangeSpec := { name := "layoutPads", fn := fun _ => fun
  | [d1, d2] => { results := [.lit (.bool true)], args := [d1, d2] }
  | _ => none }
def layoutPadsRow : OpenClaim := { program := "ytacfeabdeaikhaadoor", sum := "5f93e2ac8904653b878764e68e92d8b298dd0ff058146d9579e7a8fb24c7e7da", func := "langdoc/langdoclaw33.LayoutPads", spec := "layoutPads", inPlace := ["internal/abi.NoEscape", "internal/bytealg.MakeNoZero", "internal/bytealg.IndexByteString", "internal/bytealg.IndexString"], unfollowed := true, recurses := true, named := ["unicode/utf8.first", "unicode/utf8.acceptRanges", "internal/bytealg.MaxLen"], apart := false, laid := [("unicode/utf8.acceptRanges", laid_unicode_utf8_acceptRanges), ("unicode/utf8.first", laid_unicode_utf8_first)] }
def LayoutPadsSaid : Prop := layoutPadsRow.holds Tryd.pinned (OpenSpec.ofChange layoutPadsSpec)

/-- ITS FALSE NEIGHBOUR: 'it returns false'. Refute it at one input. -/
def layoutPadsWrong : ChangeSpec := { name := "layoutPads", fn := fun _ => fun
  | [d1, d2] => { results := [.lit (.bool false)], args := [d1, d2] }
  | _ => none }
def LayoutPadsWrongFalsely : Prop := layoutPadsRow.holds Tryd.pinned (OpenSpec.ofChange layoutPadsWrong)

/-- 'langdoclaw33.LayoutParts': WHATEVER THE INPUT: true; the input reads as it did. -/
def layoutPartsSpec : ChangeSpec := { name := "layoutParts", fn := fun _ => fun
  | [d1, d2] => { results := [.lit (.bool true)], args := [d1, d2] }
  | _ => none }
def layoutPartsRow : OpenClaim := { program := "ytacfeabdeaikhaadoor", sum := "5f93e2ac8904653b878764e68e92d8b298dd0ff058146d9579e7a8fb24c7e7da", func := "langdoc/langdoclaw33.LayoutParts", spec := "layoutParts", inPlace := ["internal/abi.NoEscape", "internal/bytealg.MakeNoZero", "internal/bytealg.IndexByteString", "internal/bytealg.IndexString"], unfollowed := true, recurses := true, named := ["unicode/utf8.first", "unicode/utf8.acceptRanges", "internal/bytealg.MaxLen"], apart := false, laid := [("unicode/utf8.acceptRanges", laid_unicode_utf8_acceptRanges), ("unicode/utf8.first", laid_unicode_utf8_first)] }
def LayoutPartsSaid : Prop := layoutPartsRow.holds Tryd.pinned (OpenSpec.ofChange layoutPartsSpec)

/-- ITS FALSE NEIGHBOUR: 'it returns false'. Refute it at one input. -/
def layoutPartsWrong : ChangeSpec := { name := "layoutParts", fn := fun _ => fun
  | [d1, d2] => { results := [.lit (.bool false)], args := [d1, d2] }
  | _ => none }
def LayoutPartsWrongFalsely : Prop := layoutPartsRow.holds Tryd.pinned (OpenSpec.ofChange layoutPartsWrong)

/-- 'langdoclaw33.LayoutStraight': WHATEVER THE INPUT: true; the input reads as it did. -/
def layoutStraightSpec : ChangeSpec := { name := "layoutStraight", fn := fun _ => fun
  | [d] => { results := [.lit (.bool true)], args := [d] }
  | _ => none }
def layoutStraightRow : OpenClaim := { program := "ytacfeabdeaikhaadoor", sum := "5f93e2ac8904653b878764e68e92d8b298dd0ff058146d9579e7a8fb24c7e7da", func := "langdoc/langdoclaw33.LayoutStraight", spec := "layoutStraight", inPlace := ["internal/abi.NoEscape", "internal/bytealg.MakeNoZero", "internal/bytealg.IndexByteString", "internal/bytealg.IndexString"], unfollowed := true, recurses := true, named := ["unicode/utf8.first", "unicode/utf8.acceptRanges", "internal/bytealg.MaxLen"], apart := false, laid := [("unicode/utf8.acceptRanges", laid_unicode_utf8_acceptRanges), ("unicode/utf8.first", laid_unicode_utf8_first)] }
def LayoutStraightSaid : Prop := layoutStraightRow.holds Tryd.pinned (OpenSpec.ofChange layoutStraightSpec)

/-- ITS FALSE NEIGHBOUR: 'it returns false'. Refute it at one input. -/
def layoutStraightWrong : ChangeSpec := { name := "layoutStraight", fn := fun _ => fun
  | [d] => { results := [.lit (.bool false)], args := [d] }
  | _ => none }
def LayoutStraightWrongFalsely : Prop := layoutStraightRow.holds Tryd.pinned (OpenSpec.ofChange layoutStraightWrong)

/-- 'langdoclaw33.LayoutFits': WHATEVER THE INPUT: true; the input reads as it did. -/
def layoutFitsSpec : ChangeSpec := { name := "layoutFits", fn := fun _ => fun
  | [d1, d2] => { results := [.lit (.bool true)], args := [d1, d2] }
  | _ => none }
def layoutFitsRow : OpenClaim := { program := "ytacfeabdeaikhaadoor", sum := "5f93e2ac8904653b878764e68e92d8b298dd0ff058146d9579e7a8fb24c7e7da", func := "langdoc/langdoclaw33.LayoutFits", spec := "layoutFits", inPlace := ["internal/abi.NoEscape", "internal/bytealg.MakeNoZero", "internal/bytealg.IndexByteString", "internal/bytealg.IndexString"], unfollowed := true, recurses := true, named := ["unicode/utf8.first", "unicode/utf8.acceptRanges", "internal/bytealg.MaxLen"], apart := false, laid := [("unicode/utf8.acceptRanges", laid_unicode_utf8_acceptRanges), ("unicode/utf8.first", laid_unicode_utf8_first)] }
def LayoutFitsSaid : Prop := layoutFitsRow.holds Tryd.pinned (OpenSpec.ofChange layoutFitsSpec)

/-- ITS FALSE NEIGHBOUR: 'it returns false'. Refute it at one input. -/
def layoutFitsWrong : ChangeSpec := { name := "layoutFits", fn := fun _ => fun
  | [d1, d2] => { results := [.lit (.bool false)], args := [d1, d2] }
  | _ => none }
def LayoutFitsWrongFalsely : Prop := layoutFitsRow.holds Tryd.pinned (OpenSpec.ofChange layoutFitsWrong)

/- THE SECOND FORM. 'bulk': how many values and letters a reading holds, each counted each time it is reached (what is shared counts as often as it is met; a slice's spare places count too). A statement '..UptoSaid' is the law's where the arguments, and the package variables that the reading takes, are together of bulk at most 1048576: NARROWER than '..Said'. Prove '..Said' where nothing that the law and all that it calls make is longer than what came in: it says more and counts as full. Else prove '..UptoSaid'. A law counts once. -/
mutual
def uptoBulk {H : Type} : DataW H → Nat
  | .lit (.string bytes) => bytes.length + 1
  | .lit _ => 1
  | .nil => 1
  | .ptr d => uptoBulk d + 1
  | .slice elems spare => uptoBulkAll elems + uptoBulkAll spare + 1
  | .agg parts => uptoBulkAll parts + 1
  | .iface _ d => uptoBulk d + 1
  | .map entries => uptoBulkEntries entries + 1
  | .held _ => 1
def uptoBulkAll {H : Type} : List (DataW H) → Nat
  | [] => 0
  | d :: r => uptoBulk d + uptoBulkAll r
def uptoBulkEntries {H : Type} : List (Lit × DataW H) → Nat
  | [] => 0
  | x :: r => uptoBulkEntry x + uptoBulkEntries r
def uptoBulkEntry {H : Type} : Lit × DataW H → Nat
  | (.string bytes, d) => bytes.length + uptoBulk d + 1
  | (_, d) => uptoBulk d + 1
 end
def uptoSmall : (H : Type) → List (DataW H) → Bool := fun _ ds => decide (uptoBulkAll ds ≤ 1048576)
def OpenSpec.upto (s : _root_.Go.ChangeSpec) : _root_.Go.OpenSpec := { _root_.Go.OpenSpec.ofChange s with cond := some uptoSmall }

/-- 'langdoclaw33.LayoutWidth', WHERE WHAT IT READS IS OF BULK AT MOST 1048576: true; the input reads as it did. -/
def layoutWidthUptoRow : OpenClaim := { program := "ytacfeabdeaikhaadoor", sum := "5f93e2ac8904653b878764e68e92d8b298dd0ff058146d9579e7a8fb24c7e7da", func := "langdoc/langdoclaw33.LayoutWidth", spec := "layoutWidth", inPlace := ["internal/abi.NoEscape", "internal/bytealg.MakeNoZero", "internal/bytealg.IndexByteString", "internal/bytealg.IndexString"], unfollowed := true, recurses := true, named := ["unicode/utf8.first", "unicode/utf8.acceptRanges", "internal/bytealg.MaxLen"], apart := false, laid := [("unicode/utf8.acceptRanges", laid_unicode_utf8_acceptRanges), ("unicode/utf8.first", laid_unicode_utf8_first)], narrowed := true }
def LayoutWidthUptoSaid : Prop := layoutWidthUptoRow.holds Tryd.pinned (OpenSpec.upto layoutWidthSpec)

/-- 'langdoclaw33.LayoutColumns', WHERE WHAT IT READS IS OF BULK AT MOST 1048576: true; the input reads as it did. -/
def layoutColumnsUptoRow : OpenClaim := { program := "ytacfeabdeaikhaadoor", sum := "5f93e2ac8904653b878764e68e92d8b298dd0ff058146d9579e7a8fb24c7e7da", func := "langdoc/langdoclaw33.LayoutColumns", spec := "layoutColumns", inPlace := ["internal/abi.NoEscape", "internal/bytealg.MakeNoZero", "internal/bytealg.IndexByteString", "internal/bytealg.IndexString"], unfollowed := true, recurses := true, named := ["unicode/utf8.first", "unicode/utf8.acceptRanges", "internal/bytealg.MaxLen"], apart := false, laid := [("unicode/utf8.acceptRanges", laid_unicode_utf8_acceptRanges), ("unicode/utf8.first", laid_unicode_utf8_first)], narrowed := true }
def LayoutColumnsUptoSaid : Prop := layoutColumnsUptoRow.holds Tryd.pinned (OpenSpec.upto layoutColumnsSpec)

/-- 'langdoclaw33.LayoutGroups', WHERE WHAT IT READS IS OF BULK AT MOST 1048576: true; the input reads as it did. -/
def layoutGroupsUptoRow : OpenClaim := { program := "ytacfeabdeaikhaadoor", sum := "5f93e2ac8904653b878764e68e92d8b298dd0ff058146d9579e7a8fb24c7e7da", func := "langdoc/langdoclaw33.LayoutGroups", spec := "layoutGroups", inPlace := ["internal/abi.NoEscape", "internal/bytealg.MakeNoZero", "internal/bytealg.IndexByteString", "internal/bytealg.IndexString"], unfollowed := true, recurses := true, named := ["unicode/utf8.first", "unicode/utf8.acceptRanges", "internal/bytealg.MaxLen"], apart := false, laid := [("unicode/utf8.acceptRanges", laid_unicode_utf8_acceptRanges), ("unicode/utf8.first", laid_unicode_utf8_first)], narrowed := true }
def LayoutGroupsUptoSaid : Prop := layoutGroupsUptoRow.holds Tryd.pinned (OpenSpec.upto layoutGroupsSpec)

/-- 'langdoclaw33.LayoutAligns', WHERE WHAT IT READS IS OF BULK AT MOST 1048576: true; the input reads as it did. -/
def layoutAlignsUptoRow : OpenClaim := { program := "ytacfeabdeaikhaadoor", sum := "5f93e2ac8904653b878764e68e92d8b298dd0ff058146d9579e7a8fb24c7e7da", func := "langdoc/langdoclaw33.LayoutAligns", spec := "layoutAligns", inPlace := ["internal/abi.NoEscape", "internal/bytealg.MakeNoZero", "internal/bytealg.IndexByteString", "internal/bytealg.IndexString"], unfollowed := true, recurses := true, named := ["unicode/utf8.first", "unicode/utf8.acceptRanges", "internal/bytealg.MaxLen"], apart := false, laid := [("unicode/utf8.acceptRanges", laid_unicode_utf8_acceptRanges), ("unicode/utf8.first", laid_unicode_utf8_first)], narrowed := true }
def LayoutAlignsUptoSaid : Prop := layoutAlignsUptoRow.holds Tryd.pinned (OpenSpec.upto layoutAlignsSpec)

/-- 'langdoclaw33.LayoutWraps', WHERE WHAT IT READS IS OF BULK AT MOST 1048576: true; the input reads as it did. -/
def layoutWrapsUptoRow : OpenClaim := { program := "ytacfeabdeaikhaadoor", sum := "5f93e2ac8904653b878764e68e92d8b298dd0ff058146d9579e7a8fb24c7e7da", func := "langdoc/langdoclaw33.LayoutWraps", spec := "layoutWraps", inPlace := ["internal/abi.NoEscape", "internal/bytealg.MakeNoZero", "internal/bytealg.IndexByteString", "internal/bytealg.IndexString"], unfollowed := true, recurses := true, named := ["unicode/utf8.first", "unicode/utf8.acceptRanges", "internal/bytealg.MaxLen"], apart := false, laid := [("unicode/utf8.acceptRanges", laid_unicode_utf8_acceptRanges), ("unicode/utf8.first", laid_unicode_utf8_first)], narrowed := true }
def LayoutWrapsUptoSaid : Prop := layoutWrapsUptoRow.holds Tryd.pinned (OpenSpec.upto layoutWrapsSpec)

/-- 'langdoclaw33.LayoutPads', WHERE WHAT IT READS IS OF BULK AT MOST 1048576: true; the input reads as it did. -/
def layoutPadsUptoRow : OpenClaim := { program := "ytacfeabdeaikhaadoor", sum := "5f93e2ac8904653b878764e68e92d8b298dd0ff058146d9579e7a8fb24c7e7da", func := "langdoc/langdoclaw33.LayoutPads", spec := "layoutPads", inPlace := ["internal/abi.NoEscape", "internal/bytealg.MakeNoZero", "internal/bytealg.IndexByteString", "internal/bytealg.IndexString"], unfollowed := true, recurses := true, named := ["unicode/utf8.first", "unicode/utf8.acceptRanges", "internal/bytealg.MaxLen"], apart := false, laid := [("unicode/utf8.acceptRanges", laid_unicode_utf8_acceptRanges), ("unicode/utf8.first", laid_unicode_utf8_first)], narrowed := true }
def LayoutPadsUptoSaid : Prop := layoutPadsUptoRow.holds Tryd.pinned (OpenSpec.upto layoutPadsSpec)

/-- 'langdoclaw33.LayoutParts', WHERE WHAT IT READS IS OF BULK AT MOST 1048576: true; the input reads as it did. -/
def layoutPartsUptoRow : OpenClaim := { program := "ytacfeabdeaikhaadoor", sum := "5f93e2ac8904653b878764e68e92d8b298dd0ff058146d9579e7a8fb24c7e7da", func := "langdoc/langdoclaw33.LayoutParts", spec := "layoutParts", inPlace := ["internal/abi.NoEscape", "internal/bytealg.MakeNoZero", "internal/bytealg.IndexByteString", "internal/bytealg.IndexString"], unfollowed := true, recurses := true, named := ["unicode/utf8.first", "unicode/utf8.acceptRanges", "internal/bytealg.MaxLen"], apart := false, laid := [("unicode/utf8.acceptRanges", laid_unicode_utf8_acceptRanges), ("unicode/utf8.first", laid_unicode_utf8_first)], narrowed := true }
def LayoutPartsUptoSaid : Prop := layoutPartsUptoRow.holds Tryd.pinned (OpenSpec.upto layoutPartsSpec)

/-- 'langdoclaw33.LayoutStraight', WHERE WHAT IT READS IS OF BULK AT MOST 1048576: true; the input reads as it did. -/
def layoutStraightUptoRow : OpenClaim := { program := "ytacfeabdeaikhaadoor", sum := "5f93e2ac8904653b878764e68e92d8b298dd0ff058146d9579e7a8fb24c7e7da", func := "langdoc/langdoclaw33.LayoutStraight", spec := "layoutStraight", inPlace := ["internal/abi.NoEscape", "internal/bytealg.MakeNoZero", "internal/bytealg.IndexByteString", "internal/bytealg.IndexString"], unfollowed := true, recurses := true, named := ["unicode/utf8.first", "unicode/utf8.acceptRanges", "internal/bytealg.MaxLen"], apart := false, laid := [("unicode/utf8.acceptRanges", laid_unicode_utf8_acceptRanges), ("unicode/utf8.first", laid_unicode_utf8_first)], narrowed := true }
def LayoutStraightUptoSaid : Prop := layoutStraightUptoRow.holds Tryd.pinned (OpenSpec.upto layoutStraightSpec)

/-- 'langdoclaw33.LayoutFits', WHERE WHAT IT READS IS OF BULK AT MOST 1048576: true; the input reads as it did. -/
def layoutFitsUptoRow : OpenClaim := { program := "ytacfeabdeaikhaadoor", sum := "5f93e2ac8904653b878764e68e92d8b298dd0ff058146d9579e7a8fb24c7e7da", func := "langdoc/langdoclaw33.LayoutFits", spec := "layoutFits", inPlace := ["internal/abi.NoEscape", "internal/bytealg.MakeNoZero", "internal/bytealg.IndexByteString", "internal/bytealg.IndexString"], unfollowed := true, recurses := true, named := ["unicode/utf8.first", "unicode/utf8.acceptRanges", "internal/bytealg.MaxLen"], apart := false, laid := [("unicode/utf8.acceptRanges", laid_unicode_utf8_acceptRanges), ("unicode/utf8.first", laid_unicode_utf8_first)], narrowed := true }
def LayoutFitsUptoSaid : Prop := layoutFitsUptoRow.holds Tryd.pinned (OpenSpec.upto layoutFitsSpec)

end Rows
end Go.Proofs.YtacfeabdeaikhaaDoor
