/-
  DERIVED. GIVEN WITH THE SEED: THE CARDS: each row of YtacfeabdeaikhaaDoorRows.lean that lists a variable, with what it lists TIED to the program's text (the seventh form; the later family's looks); each row that meets fmt, with fmt's text TOLD by the authors' own Lean function (tested against real Go, not proved from fmt's source: count such statements apart). THE CARD IS WHAT COUNTS. Prove the row's statement (the work); the ties are given (YtacfeabdeaikhaaDoorTie.lean); close each card by the builder's one call (the guide's Derived/Test/ToyasCard.lean, 'card_holds'). Laid BY PROGRAM, IN A SANDBOX (cutbox-door.mjs). By AI agents, Wed Nov 11 2026. No macro, syntax, notation, axiom, sorry.
-/
import Derived.Test.YtacfeabdeaikhaaDoorRows
import GoSem.ClaimSeven
namespace Go.Proofs.YtacfeabdeaikhaaDoor
namespace Rows

/-- THE TIED CARD OF 'langdoclaw33.LayoutWidth'. -/
def layoutWidthCard : Claim7 := { stood := { row := layoutWidthRow, standIns := [], harness := (true, "e613dc3c0a2a7c70b1c004bfa4f26cee7c9bdf3ffb59f1be6fd4f08afd2a1081"), looks := false }, kinds := [], alts := [], laidByText := true, laidKinds := [.data, .pinned], laidTests := true, laidLooks := .later }
def LayoutWidthCardSaid : Prop := Claim7.holds Tryd.pinned (.plain (OpenSpec.ofChange layoutWidthSpec)) layoutWidthCard

/-- THE TIED CARD OF 'langdoclaw33.LayoutColumns'. -/
def layoutColumnsCard : Claim7 := { stood := { row := layoutColumnsRow, standIns := [], harness := (true, "e613dc3c0a2a7c70b1c004bfa4f26cee7c9bdf3ffb59f1be6fd4f08afd2a1081"), looks := false }, kinds := [], alts := [], laidByText := true, laidKinds := [.data, .pinned], laidTests := true, laidLooks := .later }
def LayoutColumnsCardSaid : Prop := Claim7.holds Tryd.pinned (.plain (OpenSpec.ofChange layoutColumnsSpec)) layoutColumnsCard

/-- THE TIED CARD OF 'langdoclaw33.LayoutGroups'. -/
def layoutGroupsCard : Claim7 := { stood := { row := layoutGroupsRow, standIns := [], harness := (true, "e613dc3c0a2a7c70b1c004bfa4f26cee7c9bdf3ffb59f1be6fd4f08afd2a1081"), looks := false }, kinds := [], alts := [], laidByText := true, laidKinds := [.data, .pinned], laidTests := true, laidLooks := .later }
def LayoutGroupsCardSaid : Prop := Claim7.holds Tryd.pinned (.plain (OpenSpec.ofChange layoutGroupsSpec)) layoutGroupsCard

/-- THE TIED CARD OF 'langdoclaw33.LayoutAligns'. -/
def layoutAlignsCard : Claim7 := { stood := { row := layoutAlignsRow, standIns := [], harness := (true, "e613dc3c0a2a7c70b1c004bfa4f26cee7c9bdf3ffb59f1be6fd4f08afd2a1081"), looks := false }, kinds := [], alts := [], laidByText := true, laidKinds := [.data, .pinned], laidTests := true, laidLooks := .later }
def LayoutAlignsCardSaid : Prop := Claim7.holds Tryd.pinned (.plain (OpenSpec.ofChange layoutAlignsSpec)) layoutAlignsCard

/-- THE TIED CARD OF 'langdoclaw33.LayoutWraps'. -/
def layoutWrapsCard : Claim7 := { stood := { row := layoutWrapsRow, standIns := [], harness := (true, "e613dc3c0a2a7c70b1c004bfa4f26cee7c9bdf3ffb59f1be6fd4f08afd2a1081"), looks := false }, kinds := [], alts := [], laidByText := true, laidKinds := [.data, .pinned], laidTests := true, laidLooks := .later }
def LayoutWrapsCardSaid : Prop := Claim7.holds Tryd.pinned (.plain (OpenSpec.ofChange layoutWrapsSpec)) layoutWrapsCard

/-- THE TIED CARD OF 'langdoclaw33.LayoutPads'. -/
def layoutPadsCard : Claim7 := { stood := { row := layoutPadsRow, standIns := [], harness := (true, "e613dc3c0a2a7c70b1c004bfa4f26cee7c9bdf3ffb59f1be6fd4f08afd2a1081"), looks := false }, kinds := [], alts := [], laidByText := true, laidKinds := [.data, .pinned], laidTests := true, laidLooks := .later }
def LayoutPadsCardSaid : Prop := Claim7.holds Tryd.pinned (.plain (OpenSpec.ofChange layoutPadsSpec)) layoutPadsCard

/-- THE TIED CARD OF 'langdoclaw33.LayoutParts'. -/
def layoutPartsCard : Claim7 := { stood := { row := layoutPartsRow, standIns := [], harness := (true, "e613dc3c0a2a7c70b1c004bfa4f26cee7c9bdf3ffb59f1be6fd4f08afd2a1081"), looks := false }, kinds := [], alts := [], laidByText := true, laidKinds := [.data, .pinned], laidTests := true, laidLooks := .later }
def LayoutPartsCardSaid : Prop := Claim7.holds Tryd.pinned (.plain (OpenSpec.ofChange layoutPartsSpec)) layoutPartsCard

/-- THE TIED CARD OF 'langdoclaw33.LayoutStraight'. -/
def layoutStraightCard : Claim7 := { stood := { row := layoutStraightRow, standIns := [], harness := (true, "e613dc3c0a2a7c70b1c004bfa4f26cee7c9bdf3ffb59f1be6fd4f08afd2a1081"), looks := false }, kinds := [], alts := [], laidByText := true, laidKinds := [.data, .pinned], laidTests := true, laidLooks := .later }
def LayoutStraightCardSaid : Prop := Claim7.holds Tryd.pinned (.plain (OpenSpec.ofChange layoutStraightSpec)) layoutStraightCard

/-- THE TIED CARD OF 'langdoclaw33.LayoutFits'. -/
def layoutFitsCard : Claim7 := { stood := { row := layoutFitsRow, standIns := [], harness := (true, "e613dc3c0a2a7c70b1c004bfa4f26cee7c9bdf3ffb59f1be6fd4f08afd2a1081"), looks := false }, kinds := [], alts := [], laidByText := true, laidKinds := [.data, .pinned], laidTests := true, laidLooks := .later }
def LayoutFitsCardSaid : Prop := Claim7.holds Tryd.pinned (.plain (OpenSpec.ofChange layoutFitsSpec)) layoutFitsCard

/-- THE SECOND FORM's CARD OF 'langdoclaw33.LayoutWidth'. -/
def layoutWidthUptoCard : Claim7 := { stood := { row := layoutWidthUptoRow, standIns := [], harness := (true, "e613dc3c0a2a7c70b1c004bfa4f26cee7c9bdf3ffb59f1be6fd4f08afd2a1081"), looks := false }, kinds := [], alts := [], laidByText := true, laidKinds := [.data, .pinned], laidTests := true, laidLooks := .later }
def LayoutWidthUptoCardSaid : Prop := Claim7.holds Tryd.pinned (.plain (OpenSpec.upto layoutWidthSpec)) layoutWidthUptoCard

/-- THE SECOND FORM's CARD OF 'langdoclaw33.LayoutColumns'. -/
def layoutColumnsUptoCard : Claim7 := { stood := { row := layoutColumnsUptoRow, standIns := [], harness := (true, "e613dc3c0a2a7c70b1c004bfa4f26cee7c9bdf3ffb59f1be6fd4f08afd2a1081"), looks := false }, kinds := [], alts := [], laidByText := true, laidKinds := [.data, .pinned], laidTests := true, laidLooks := .later }
def LayoutColumnsUptoCardSaid : Prop := Claim7.holds Tryd.pinned (.plain (OpenSpec.upto layoutColumnsSpec)) layoutColumnsUptoCard

/-- THE SECOND FORM's CARD OF 'langdoclaw33.LayoutGroups'. -/
def layoutGroupsUptoCard : Claim7 := { stood := { row := layoutGroupsUptoRow, standIns := [], harness := (true, "e613dc3c0a2a7c70b1c004bfa4f26cee7c9bdf3ffb59f1be6fd4f08afd2a1081"), looks := false }, kinds := [], alts := [], laidByText := true, laidKinds := [.data, .pinned], laidTests := true, laidLooks := .later }
def LayoutGroupsUptoCardSaid : Prop := Claim7.holds Tryd.pinned (.plain (OpenSpec.upto layoutGroupsSpec)) layoutGroupsUptoCard

/-- THE SECOND FORM's CARD OF 'langdoclaw33.LayoutAligns'. -/
def layoutAlignsUptoCard : Claim7 := { stood := { row := layoutAlignsUptoRow, standIns := [], harness := (true, "e613dc3c0a2a7c70b1c004bfa4f26cee7c9bdf3ffb59f1be6fd4f08afd2a1081"), looks := false }, kinds := [], alts := [], laidByText := true, laidKinds := [.data, .pinned], laidTests := true, laidLooks := .later }
def LayoutAlignsUptoCardSaid : Prop := Claim7.holds Tryd.pinned (.plain (OpenSpec.upto layoutAlignsSpec)) layoutAlignsUptoCard

/-- THE SECOND FORM's CARD OF 'langdoclaw33.LayoutWraps'. -/
def layoutWrapsUptoCard : Claim7 := { stood := { row := layoutWrapsUptoRow, standIns := [], harness := (true, "e613dc3c0a2a7c70b1c004bfa4f26cee7c9bdf3ffb59f1be6fd4f08afd2a1081"), looks := false }, kinds := [], alts := [], laidByText := true, laidKinds := [.data, .pinned], laidTests := true, laidLooks := .later }
def LayoutWrapsUptoCardSaid : Prop := Claim7.holds Tryd.pinned (.plain (OpenSpec.upto layoutWrapsSpec)) layoutWrapsUptoCard

/-- THE SECOND FORM's CARD OF 'langdoclaw33.LayoutPads'. -/
def layoutPadsUptoCard : Claim7 := { stood := { row := layoutPadsUptoRow, standIns := [], harness := (true, "e613dc3c0a2a7c70b1c004bfa4f26cee7c9bdf3ffb59f1be6fd4f08afd2a1081"), looks := false }, kinds := [], alts := [], laidByText := true, laidKinds := [.data, .pinned], laidTests := true, laidLooks := .later }
def LayoutPadsUptoCardSaid : Prop := Claim7.holds Tryd.pinned (.plain (OpenSpec.upto layoutPadsSpec)) layoutPadsUptoCard

/-- THE SECOND FORM's CARD OF 'langdoclaw33.LayoutParts'. -/
def layoutPartsUptoCard : Claim7 := { stood := { row := layoutPartsUptoRow, standIns := [], harness := (true, "e613dc3c0a2a7c70b1c004bfa4f26cee7c9bdf3ffb59f1be6fd4f08afd2a1081"), looks := false }, kinds := [], alts := [], laidByText := true, laidKinds := [.data, .pinned], laidTests := true, laidLooks := .later }
def LayoutPartsUptoCardSaid : Prop := Claim7.holds Tryd.pinned (.plain (OpenSpec.upto layoutPartsSpec)) layoutPartsUptoCard

/-- THE SECOND FORM's CARD OF 'langdoclaw33.LayoutStraight'. -/
def layoutStraightUptoCard : Claim7 := { stood := { row := layoutStraightUptoRow, standIns := [], harness := (true, "e613dc3c0a2a7c70b1c004bfa4f26cee7c9bdf3ffb59f1be6fd4f08afd2a1081"), looks := false }, kinds := [], alts := [], laidByText := true, laidKinds := [.data, .pinned], laidTests := true, laidLooks := .later }
def LayoutStraightUptoCardSaid : Prop := Claim7.holds Tryd.pinned (.plain (OpenSpec.upto layoutStraightSpec)) layoutStraightUptoCard

/-- THE SECOND FORM's CARD OF 'langdoclaw33.LayoutFits'. -/
def layoutFitsUptoCard : Claim7 := { stood := { row := layoutFitsUptoRow, standIns := [], harness := (true, "e613dc3c0a2a7c70b1c004bfa4f26cee7c9bdf3ffb59f1be6fd4f08afd2a1081"), looks := false }, kinds := [], alts := [], laidByText := true, laidKinds := [.data, .pinned], laidTests := true, laidLooks := .later }
def LayoutFitsUptoCardSaid : Prop := Claim7.holds Tryd.pinned (.plain (OpenSpec.upto layoutFitsSpec)) layoutFitsUptoCard
end Rows
end Go.Proofs.YtacfeabdeaikhaaDoor
