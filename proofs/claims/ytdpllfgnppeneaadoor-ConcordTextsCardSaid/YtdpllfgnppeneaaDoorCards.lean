/-
  DERIVED. GIVEN WITH THE SEED: THE CARDS: each row of YtdpllfgnppeneaaDoorRows.lean that lists a variable, with what it lists TIED to the program's text (the seventh form; the later family's looks); each row that meets fmt, with fmt's text TOLD by the authors' own Lean function (tested against real Go, not proved from fmt's source: count such statements apart). THE CARD IS WHAT COUNTS. Prove the row's statement (the work); the ties are given (YtdpllfgnppeneaaDoorTie.lean); close each card by the builder's one call (the guide's Derived/Test/ToyasCard.lean, 'card_holds'). Laid BY PROGRAM, IN A SANDBOX (cutbox-door.mjs). By AI agents, Wed Nov 11 2026. No macro, syntax, notation, axiom, sorry.
-/
import Derived.Test.YtdpllfgnppeneaaDoorRows
import GoSem.ClaimSeven
namespace Go.Proofs.YtdpllfgnppeneaaDoor
namespace Rows

/-- THE TIED CARD OF 'langdoclaw39.ConcordLess'. -/
def concordLessCard : Claim7 := { stood := { row := concordLessRow, standIns := [], harness := (true, "fc09b8e622f9db7b8001f62b8ce76633bfe49abe56ee8c9fb9d1a8d907acd175"), looks := false }, kinds := [], alts := [], laidByText := true, laidKinds := [.data, .pinned], laidTests := true, laidLooks := .later }
def ConcordLessCardSaid : Prop := Claim7.holds Tryd.pinned (.plain (OpenSpec.ofChange concordLessSpec)) concordLessCard

/-- THE TIED CARD OF 'langdoclaw39.ConcordSort'. -/
def concordSortCard : Claim7 := { stood := { row := concordSortRow, standIns := [], harness := (true, "fc09b8e622f9db7b8001f62b8ce76633bfe49abe56ee8c9fb9d1a8d907acd175"), looks := false }, kinds := [], alts := [], laidByText := true, laidKinds := [.data, .pinned], laidTests := true, laidLooks := .later }
def ConcordSortCardSaid : Prop := Claim7.holds Tryd.pinned (.plain (OpenSpec.ofChange concordSortSpec)) concordSortCard

/-- THE TIED CARD OF 'langdoclaw39.ConcordLines'. -/
def concordLinesCard : Claim7 := { stood := { row := concordLinesRow, standIns := [], harness := (true, "fc09b8e622f9db7b8001f62b8ce76633bfe49abe56ee8c9fb9d1a8d907acd175"), looks := false }, kinds := [], alts := [], laidByText := true, laidKinds := [.data, .pinned], laidTests := true, laidLooks := .later }
def ConcordLinesCardSaid : Prop := Claim7.holds Tryd.pinned (.plain (OpenSpec.ofChange concordLinesSpec)) concordLinesCard

/-- THE TIED CARD OF 'langdoclaw39.ConcordOrder'. -/
def concordOrderCard : Claim7 := { stood := { row := concordOrderRow, standIns := [], harness := (true, "fc09b8e622f9db7b8001f62b8ce76633bfe49abe56ee8c9fb9d1a8d907acd175"), looks := false }, kinds := [], alts := [], laidByText := true, laidKinds := [.data, .pinned], laidTests := true, laidLooks := .later }
def ConcordOrderCardSaid : Prop := Claim7.holds Tryd.pinned (.plain (OpenSpec.ofChange concordOrderSpec)) concordOrderCard

/-- THE TIED CARD OF 'langdoclaw39.ConcordTexts'. -/
def concordTextsCard : Claim7 := { stood := { row := concordTextsRow, standIns := [], harness := (true, "fc09b8e622f9db7b8001f62b8ce76633bfe49abe56ee8c9fb9d1a8d907acd175"), looks := false }, kinds := [], alts := [], laidByText := true, laidKinds := [.data, .pinned], laidTests := true, laidLooks := .later }
def ConcordTextsCardSaid : Prop := Claim7.holds Tryd.pinned (.plain (OpenSpec.ofChange concordTextsSpec)) concordTextsCard

/-- THE TIED CARD OF 'langdoclaw39.ConcordAligned'. -/
def concordAlignedCard : Claim7 := { stood := { row := concordAlignedRow, standIns := [], harness := (true, "fc09b8e622f9db7b8001f62b8ce76633bfe49abe56ee8c9fb9d1a8d907acd175"), looks := false }, kinds := [], alts := [], laidByText := true, laidKinds := [.data, .pinned], laidTests := true, laidLooks := .later }
def ConcordAlignedCardSaid : Prop := Claim7.holds Tryd.pinned (.plain (OpenSpec.ofChange concordAlignedSpec)) concordAlignedCard

/-- THE SECOND FORM's CARD OF 'langdoclaw39.ConcordLess'. -/
def concordLessUptoCard : Claim7 := { stood := { row := concordLessUptoRow, standIns := [], harness := (true, "fc09b8e622f9db7b8001f62b8ce76633bfe49abe56ee8c9fb9d1a8d907acd175"), looks := false }, kinds := [], alts := [], laidByText := true, laidKinds := [.data, .pinned], laidTests := true, laidLooks := .later }
def ConcordLessUptoCardSaid : Prop := Claim7.holds Tryd.pinned (.plain (OpenSpec.upto concordLessSpec)) concordLessUptoCard

/-- THE SECOND FORM's CARD OF 'langdoclaw39.ConcordSort'. -/
def concordSortUptoCard : Claim7 := { stood := { row := concordSortUptoRow, standIns := [], harness := (true, "fc09b8e622f9db7b8001f62b8ce76633bfe49abe56ee8c9fb9d1a8d907acd175"), looks := false }, kinds := [], alts := [], laidByText := true, laidKinds := [.data, .pinned], laidTests := true, laidLooks := .later }
def ConcordSortUptoCardSaid : Prop := Claim7.holds Tryd.pinned (.plain (OpenSpec.upto concordSortSpec)) concordSortUptoCard

/-- THE SECOND FORM's CARD OF 'langdoclaw39.ConcordLines'. -/
def concordLinesUptoCard : Claim7 := { stood := { row := concordLinesUptoRow, standIns := [], harness := (true, "fc09b8e622f9db7b8001f62b8ce76633bfe49abe56ee8c9fb9d1a8d907acd175"), looks := false }, kinds := [], alts := [], laidByText := true, laidKinds := [.data, .pinned], laidTests := true, laidLooks := .later }
def ConcordLinesUptoCardSaid : Prop := Claim7.holds Tryd.pinned (.plain (OpenSpec.upto concordLinesSpec)) concordLinesUptoCard

/-- THE SECOND FORM's CARD OF 'langdoclaw39.ConcordOrder'. -/
def concordOrderUptoCard : Claim7 := { stood := { row := concordOrderUptoRow, standIns := [], harness := (true, "fc09b8e622f9db7b8001f62b8ce76633bfe49abe56ee8c9fb9d1a8d907acd175"), looks := false }, kinds := [], alts := [], laidByText := true, laidKinds := [.data, .pinned], laidTests := true, laidLooks := .later }
def ConcordOrderUptoCardSaid : Prop := Claim7.holds Tryd.pinned (.plain (OpenSpec.upto concordOrderSpec)) concordOrderUptoCard

/-- THE SECOND FORM's CARD OF 'langdoclaw39.ConcordTexts'. -/
def concordTextsUptoCard : Claim7 := { stood := { row := concordTextsUptoRow, standIns := [], harness := (true, "fc09b8e622f9db7b8001f62b8ce76633bfe49abe56ee8c9fb9d1a8d907acd175"), looks := false }, kinds := [], alts := [], laidByText := true, laidKinds := [.data, .pinned], laidTests := true, laidLooks := .later }
def ConcordTextsUptoCardSaid : Prop := Claim7.holds Tryd.pinned (.plain (OpenSpec.upto concordTextsSpec)) concordTextsUptoCard

/-- THE SECOND FORM's CARD OF 'langdoclaw39.ConcordAligned'. -/
def concordAlignedUptoCard : Claim7 := { stood := { row := concordAlignedUptoRow, standIns := [], harness := (true, "fc09b8e622f9db7b8001f62b8ce76633bfe49abe56ee8c9fb9d1a8d907acd175"), looks := false }, kinds := [], alts := [], laidByText := true, laidKinds := [.data, .pinned], laidTests := true, laidLooks := .later }
def ConcordAlignedUptoCardSaid : Prop := Claim7.holds Tryd.pinned (.plain (OpenSpec.upto concordAlignedSpec)) concordAlignedUptoCard
end Rows
end Go.Proofs.YtdpllfgnppeneaaDoor
