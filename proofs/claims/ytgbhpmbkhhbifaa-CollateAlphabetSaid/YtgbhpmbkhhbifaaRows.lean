/-
  No cell of these rows narrows 'for every input' (looked for: loops, veiled, ifaces, maps, wideKeys, modest, calm, conditions, laid).
  DERIVED. THE GIVEN ROWS OF THIS SEAT. 8 by the template 'for every input the law returns true; each argument reads behind the call as it read before'; 0 by the template 'total and deterministic' (their statements: YtgbhpmbkhhbifaaTotals.lean).
  GIVEN WITH THE SEED: the statements are not yours to turn. If you find one false, say at which input.
  Laid BY PROGRAM, IN A SANDBOX (cutbox-rows.mjs): the forced cells as the released guide's own fill.sh prints them over the translation 8e7f8d02db8d4ee5… (all of the seat's roots in one cut). By AI agents, Wed Nov 11 2026. No macro, syntax, notation, axiom, sorry.
-/
import Derived.Test.YtgbhpmbkhhbifaaChecked
import GoSem.Claim
import GoSem.ClaimJoined
import GoSem.ClaimMapViews
import Derived.JoinedTies
import Derived.KernelRfl
namespace Go.Proofs.Ytgbhpmbkhhbifaa
/- THE CELL 'sum', in the pinned program and in every row, IS THE sha256 OF THE DUMP (.gsa) THAT YtgbhpmbkhhbifaaProg.lean LOADS. Nothing in Lean hashes anything: it is a label: what it is worth is what the hold of that sum in a sandbox is worth. -/
noncomputable def Try.pinned : Pinned := { name := "ytgbhpmbkhhbifaa", sum := "8e7f8d02db8d4ee51835d6489569df629e0381c68000c769832fd6ff19caa7b3", checked := Try.checked }
namespace Rows
def none {H : Type} : Left H := { results := [], args := [] }

/-- 'langdoclaw19.CollateLetters': WHATEVER THE INPUT: true; the input reads as it did. -/
def collateLettersSpec : ChangeSpec := { name := "collateLetters", fn := fun _ => fun
  | [d1, d2] => { results := [.lit (.bool true)], args := [d1, d2] }
  | _ => none }
def collateLettersRow : OpenClaim := { program := "ytgbhpmbkhhbifaa", sum := "8e7f8d02db8d4ee51835d6489569df629e0381c68000c769832fd6ff19caa7b3", func := "langdoc/langdoclaw19.CollateLetters", spec := "collateLetters", unfollowed := true, recurses := true, apart := false }
def CollateLettersSaid : Prop := collateLettersRow.holds Try.pinned (OpenSpec.ofChange collateLettersSpec)

/-- ITS FALSE NEIGHBOUR: 'it returns false'. Refute it at one input. -/
def collateLettersWrong : ChangeSpec := { name := "collateLetters", fn := fun _ => fun
  | [d1, d2] => { results := [.lit (.bool false)], args := [d1, d2] }
  | _ => none }
def CollateLettersWrongFalsely : Prop := collateLettersRow.holds Try.pinned (OpenSpec.ofChange collateLettersWrong)

/-- 'langdoclaw19.CollateCompares': WHATEVER THE INPUT: true; the input reads as it did. -/
def collateComparesSpec : ChangeSpec := { name := "collateCompares", fn := fun _ => fun
  | [d1, d2, d3] => { results := [.lit (.bool true)], args := [d1, d2, d3] }
  | _ => none }
def collateComparesRow : OpenClaim := { program := "ytgbhpmbkhhbifaa", sum := "8e7f8d02db8d4ee51835d6489569df629e0381c68000c769832fd6ff19caa7b3", func := "langdoc/langdoclaw19.CollateCompares", spec := "collateCompares", unfollowed := true, recurses := true, apart := false }
def CollateComparesSaid : Prop := collateComparesRow.holds Try.pinned (OpenSpec.ofChange collateComparesSpec)

/-- ITS FALSE NEIGHBOUR: 'it returns false'. Refute it at one input. -/
def collateComparesWrong : ChangeSpec := { name := "collateCompares", fn := fun _ => fun
  | [d1, d2, d3] => { results := [.lit (.bool false)], args := [d1, d2, d3] }
  | _ => none }
def CollateComparesWrongFalsely : Prop := collateComparesRow.holds Try.pinned (OpenSpec.ofChange collateComparesWrong)

/-- 'langdoclaw19.CollateSorts': WHATEVER THE INPUT: true; the input reads as it did. -/
def collateSortsSpec : ChangeSpec := { name := "collateSorts", fn := fun _ => fun
  | [d1, d2] => { results := [.lit (.bool true)], args := [d1, d2] }
  | _ => none }
def collateSortsRow : OpenClaim := { program := "ytgbhpmbkhhbifaa", sum := "8e7f8d02db8d4ee51835d6489569df629e0381c68000c769832fd6ff19caa7b3", func := "langdoc/langdoclaw19.CollateSorts", spec := "collateSorts", unfollowed := true, recurses := true, apart := false }
def CollateSortsSaid : Prop := collateSortsRow.holds Try.pinned (OpenSpec.ofChange collateSortsSpec)

/-- ITS FALSE NEIGHBOUR: 'it returns false'. Refute it at one input. -/
def collateSortsWrong : ChangeSpec := { name := "collateSorts", fn := fun _ => fun
  | [d1, d2] => { results := [.lit (.bool false)], args := [d1, d2] }
  | _ => none }
def CollateSortsWrongFalsely : Prop := collateSortsRow.holds Try.pinned (OpenSpec.ofChange collateSortsWrong)

/-- 'langdoclaw19.CollateHeads': WHATEVER THE INPUT: true; the input reads as it did. -/
def collateHeadsSpec : ChangeSpec := { name := "collateHeads", fn := fun _ => fun
  | [d1, d2] => { results := [.lit (.bool true)], args := [d1, d2] }
  | _ => none }
def collateHeadsRow : OpenClaim := { program := "ytgbhpmbkhhbifaa", sum := "8e7f8d02db8d4ee51835d6489569df629e0381c68000c769832fd6ff19caa7b3", func := "langdoc/langdoclaw19.CollateHeads", spec := "collateHeads", unfollowed := true, recurses := true, apart := false }
def CollateHeadsSaid : Prop := collateHeadsRow.holds Try.pinned (OpenSpec.ofChange collateHeadsSpec)

/-- ITS FALSE NEIGHBOUR: 'it returns false'. Refute it at one input. -/
def collateHeadsWrong : ChangeSpec := { name := "collateHeads", fn := fun _ => fun
  | [d1, d2] => { results := [.lit (.bool false)], args := [d1, d2] }
  | _ => none }
def CollateHeadsWrongFalsely : Prop := collateHeadsRow.holds Try.pinned (OpenSpec.ofChange collateHeadsWrong)

/-- 'langdoclaw19.CollateTotal': WHATEVER THE INPUT: true; the input reads as it did. -/
def collateTotalSpec : ChangeSpec := { name := "collateTotal", fn := fun _ => fun
  | [d1, d2] => { results := [.lit (.bool true)], args := [d1, d2] }
  | _ => none }
def collateTotalRow : OpenClaim := { program := "ytgbhpmbkhhbifaa", sum := "8e7f8d02db8d4ee51835d6489569df629e0381c68000c769832fd6ff19caa7b3", func := "langdoc/langdoclaw19.CollateTotal", spec := "collateTotal", unfollowed := true, recurses := true, apart := false }
def CollateTotalSaid : Prop := collateTotalRow.holds Try.pinned (OpenSpec.ofChange collateTotalSpec)

/-- ITS FALSE NEIGHBOUR: 'it returns false'. Refute it at one input. -/
def collateTotalWrong : ChangeSpec := { name := "collateTotal", fn := fun _ => fun
  | [d1, d2] => { results := [.lit (.bool false)], args := [d1, d2] }
  | _ => none }
def CollateTotalWrongFalsely : Prop := collateTotalRow.holds Try.pinned (OpenSpec.ofChange collateTotalWrong)

/-- 'langdoclaw19.CollateOrdered': WHATEVER THE INPUT: true; the input reads as it did. -/
def collateOrderedSpec : ChangeSpec := { name := "collateOrdered", fn := fun _ => fun
  | [d1, d2] => { results := [.lit (.bool true)], args := [d1, d2] }
  | _ => none }
def collateOrderedRow : OpenClaim := { program := "ytgbhpmbkhhbifaa", sum := "8e7f8d02db8d4ee51835d6489569df629e0381c68000c769832fd6ff19caa7b3", func := "langdoc/langdoclaw19.CollateOrdered", spec := "collateOrdered", unfollowed := true, recurses := true, apart := false }
def CollateOrderedSaid : Prop := collateOrderedRow.holds Try.pinned (OpenSpec.ofChange collateOrderedSpec)

/-- ITS FALSE NEIGHBOUR: 'it returns false'. Refute it at one input. -/
def collateOrderedWrong : ChangeSpec := { name := "collateOrdered", fn := fun _ => fun
  | [d1, d2] => { results := [.lit (.bool false)], args := [d1, d2] }
  | _ => none }
def CollateOrderedWrongFalsely : Prop := collateOrderedRow.holds Try.pinned (OpenSpec.ofChange collateOrderedWrong)

/-- 'langdoclaw19.CollateParts': WHATEVER THE INPUT: true; the input reads as it did. -/
def collatePartsSpec : ChangeSpec := { name := "collateParts", fn := fun _ => fun
  | [d1, d2] => { results := [.lit (.bool true)], args := [d1, d2] }
  | _ => none }
def collatePartsRow : OpenClaim := { program := "ytgbhpmbkhhbifaa", sum := "8e7f8d02db8d4ee51835d6489569df629e0381c68000c769832fd6ff19caa7b3", func := "langdoc/langdoclaw19.CollateParts", spec := "collateParts", unfollowed := true, recurses := true, apart := false }
def CollatePartsSaid : Prop := collatePartsRow.holds Try.pinned (OpenSpec.ofChange collatePartsSpec)

/-- ITS FALSE NEIGHBOUR: 'it returns false'. Refute it at one input. -/
def collatePartsWrong : ChangeSpec := { name := "collateParts", fn := fun _ => fun
  | [d1, d2] => { results := [.lit (.bool false)], args := [d1, d2] }
  | _ => none }
def CollatePartsWrongFalsely : Prop := collatePartsRow.holds Try.pinned (OpenSpec.ofChange collatePartsWrong)

/-- 'langdoclaw19.CollateAlphabet': WHATEVER THE INPUT: true; the input reads as it did. -/
def collateAlphabetSpec : ChangeSpec := { name := "collateAlphabet", fn := fun _ => fun
  | [d] => { results := [.lit (.bool true)], args := [d] }
  | _ => none }
def collateAlphabetRow : OpenClaim := { program := "ytgbhpmbkhhbifaa", sum := "8e7f8d02db8d4ee51835d6489569df629e0381c68000c769832fd6ff19caa7b3", func := "langdoc/langdoclaw19.CollateAlphabet", spec := "collateAlphabet", unfollowed := true, recurses := true, apart := false }
def CollateAlphabetSaid : Prop := collateAlphabetRow.holds Try.pinned (OpenSpec.ofChange collateAlphabetSpec)

/-- ITS FALSE NEIGHBOUR: 'it returns false'. Refute it at one input. -/
def collateAlphabetWrong : ChangeSpec := { name := "collateAlphabet", fn := fun _ => fun
  | [d] => { results := [.lit (.bool false)], args := [d] }
  | _ => none }
def CollateAlphabetWrongFalsely : Prop := collateAlphabetRow.holds Try.pinned (OpenSpec.ofChange collateAlphabetWrong)

/- THE SECOND FORM. 'bulk': how many values and letters a reading holds, each counted each time it is reached (what is shared counts as often as it is met; a slice's spare places count too). A statement '..UptoSaid' is the law's where the arguments, and the package variables that the reading takes, are together of bulk at most 1048576: NARROWER than '..Said'. Prove '..Said' where nothing that the law and all that it calls make is longer than what came in: it says more and counts as full. Else prove '..UptoSaid'. A law counts once. -/
mutual
def uptoBulk {H : Type} : DataW H → Nat
  | .lit (.string bytes) => bytes.length + 1
  | .lit _ => 1
  | .nil => 1
  | .ptr d => uptoBulk d + 1
  | .slice elems spare => uptoBulkAll elems + uptoBulkAll spare + 1
  | .agg parts => uptoBulkAll parts + 1
  | .iface _ d => uptoBulk d + 1
  | .map entries => uptoBulkEntries entries + 1
  | .held _ => 1
def uptoBulkAll {H : Type} : List (DataW H) → Nat
  | [] => 0
  | d :: r => uptoBulk d + uptoBulkAll r
def uptoBulkEntries {H : Type} : List (Lit × DataW H) → Nat
  | [] => 0
  | x :: r => uptoBulkEntry x + uptoBulkEntries r
def uptoBulkEntry {H : Type} : Lit × DataW H → Nat
  | (.string bytes, d) => bytes.length + uptoBulk d + 1
  | (_, d) => uptoBulk d + 1
 end
def uptoSmall : (H : Type) → List (DataW H) → Bool := fun _ ds => decide (uptoBulkAll ds ≤ 1048576)
def OpenSpec.upto (s : _root_.Go.ChangeSpec) : _root_.Go.OpenSpec := { _root_.Go.OpenSpec.ofChange s with cond := some uptoSmall }

/-- 'langdoclaw19.CollateLetters', WHERE WHAT IT READS IS OF BULK AT MOST 1048576: true; the input reads as it did. -/
def collateLettersUptoRow : OpenClaim := { program := "ytgbhpmbkhhbifaa", sum := "8e7f8d02db8d4ee51835d6489569df629e0381c68000c769832fd6ff19caa7b3", func := "langdoc/langdoclaw19.CollateLetters", spec := "collateLetters", unfollowed := true, recurses := true, apart := false, narrowed := true }
def CollateLettersUptoSaid : Prop := collateLettersUptoRow.holds Try.pinned (OpenSpec.upto collateLettersSpec)

/-- 'langdoclaw19.CollateCompares', WHERE WHAT IT READS IS OF BULK AT MOST 1048576: true; the input reads as it did. -/
def collateComparesUptoRow : OpenClaim := { program := "ytgbhpmbkhhbifaa", sum := "8e7f8d02db8d4ee51835d6489569df629e0381c68000c769832fd6ff19caa7b3", func := "langdoc/langdoclaw19.CollateCompares", spec := "collateCompares", unfollowed := true, recurses := true, apart := false, narrowed := true }
def CollateComparesUptoSaid : Prop := collateComparesUptoRow.holds Try.pinned (OpenSpec.upto collateComparesSpec)

/-- 'langdoclaw19.CollateSorts', WHERE WHAT IT READS IS OF BULK AT MOST 1048576: true; the input reads as it did. -/
def collateSortsUptoRow : OpenClaim := { program := "ytgbhpmbkhhbifaa", sum := "8e7f8d02db8d4ee51835d6489569df629e0381c68000c769832fd6ff19caa7b3", func := "langdoc/langdoclaw19.CollateSorts", spec := "collateSorts", unfollowed := true, recurses := true, apart := false, narrowed := true }
def CollateSortsUptoSaid : Prop := collateSortsUptoRow.holds Try.pinned (OpenSpec.upto collateSortsSpec)

/-- 'langdoclaw19.CollateHeads', WHERE WHAT IT READS IS OF BULK AT MOST 1048576: true; the input reads as it did. -/
def collateHeadsUptoRow : OpenClaim := { program := "ytgbhpmbkhhbifaa", sum := "8e7f8d02db8d4ee51835d6489569df629e0381c68000c769832fd6ff19caa7b3", func := "langdoc/langdoclaw19.CollateHeads", spec := "collateHeads", unfollowed := true, recurses := true, apart := false, narrowed := true }
def CollateHeadsUptoSaid : Prop := collateHeadsUptoRow.holds Try.pinned (OpenSpec.upto collateHeadsSpec)

/-- 'langdoclaw19.CollateTotal', WHERE WHAT IT READS IS OF BULK AT MOST 1048576: true; the input reads as it did. -/
def collateTotalUptoRow : OpenClaim := { program := "ytgbhpmbkhhbifaa", sum := "8e7f8d02db8d4ee51835d6489569df629e0381c68000c769832fd6ff19caa7b3", func := "langdoc/langdoclaw19.CollateTotal", spec := "collateTotal", unfollowed := true, recurses := true, apart := false, narrowed := true }
def CollateTotalUptoSaid : Prop := collateTotalUptoRow.holds Try.pinned (OpenSpec.upto collateTotalSpec)

/-- 'langdoclaw19.CollateOrdered', WHERE WHAT IT READS IS OF BULK AT MOST 1048576: true; the input reads as it did. -/
def collateOrderedUptoRow : OpenClaim := { program := "ytgbhpmbkhhbifaa", sum := "8e7f8d02db8d4ee51835d6489569df629e0381c68000c769832fd6ff19caa7b3", func := "langdoc/langdoclaw19.CollateOrdered", spec := "collateOrdered", unfollowed := true, recurses := true, apart := false, narrowed := true }
def CollateOrderedUptoSaid : Prop := collateOrderedUptoRow.holds Try.pinned (OpenSpec.upto collateOrderedSpec)

/-- 'langdoclaw19.CollateParts', WHERE WHAT IT READS IS OF BULK AT MOST 1048576: true; the input reads as it did. -/
def collatePartsUptoRow : OpenClaim := { program := "ytgbhpmbkhhbifaa", sum := "8e7f8d02db8d4ee51835d6489569df629e0381c68000c769832fd6ff19caa7b3", func := "langdoc/langdoclaw19.CollateParts", spec := "collateParts", unfollowed := true, recurses := true, apart := false, narrowed := true }
def CollatePartsUptoSaid : Prop := collatePartsUptoRow.holds Try.pinned (OpenSpec.upto collatePartsSpec)

/-- 'langdoclaw19.CollateAlphabet', WHERE WHAT IT READS IS OF BULK AT MOST 1048576: true; the input reads as it did. -/
def collateAlphabetUptoRow : OpenClaim := { program := "ytgbhpmbkhhbifaa", sum := "8e7f8d02db8d4ee51835d6489569df629e0381c68000c769832fd6ff19caa7b3", func := "langdoc/langdoclaw19.CollateAlphabet", spec := "collateAlphabet", unfollowed := true, recurses := true, apart := false, narrowed := true }
def CollateAlphabetUptoSaid : Prop := collateAlphabetUptoRow.holds Try.pinned (OpenSpec.upto collateAlphabetSpec)

end Rows
end Go.Proofs.Ytgbhpmbkhhbifaa
