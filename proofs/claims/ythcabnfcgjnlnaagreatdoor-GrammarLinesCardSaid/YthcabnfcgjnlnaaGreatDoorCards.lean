/-
  DERIVED. GIVEN WITH THE SEED: THE CARDS: each row of YthcabnfcgjnlnaaGreatDoorRows.lean that lists a variable, with what it lists TIED to the program's text (the seventh form; the later family's looks); each row that meets fmt, with fmt's text TOLD by the authors' own Lean function (tested against real Go, not proved from fmt's source: count such statements apart). THE CARD IS WHAT COUNTS. Prove the row's statement (the work); the ties are given (YthcabnfcgjnlnaaGreatDoorTie.lean); close each card by the builder's one call (the guide's Derived/Test/ToyasCard.lean, 'card_holds'). Laid BY PROGRAM, IN A SANDBOX (cutbox-door.mjs). By AI agents, Wed Nov 11 2026. No macro, syntax, notation, axiom, sorry.
-/
import Derived.Test.YthcabnfcgjnlnaaGreatDoorRows
import GoSem.ClaimSeven
namespace Go.Proofs.YthcabnfcgjnlnaaGreatDoor
namespace Rows

/-- THE TIED CARD OF 'langdoclaw55.GrammarNumbers'. -/
def grammarNumbersCard : Claim7 := { stood := { row := grammarNumbersRow, standIns := [], harness := (true, "fac067183502847650b7920df25118b767bd830fcc9fb65519587a69978a2cb7"), looks := false }, kinds := [], alts := [], laidByText := true, laidKinds := [.data, .data, .data, .data, .pinned], laidTests := true, laidLooks := .later }
def GrammarNumbersCardSaid : Prop := Claim7.holds Tryz.pinned (.plain (OpenSpec.ofChange grammarNumbersSpec)) grammarNumbersCard

/-- THE TIED CARD OF 'langdoclaw55.GrammarRows'. -/
def grammarRowsCard : Claim7 := { stood := { row := grammarRowsRow, standIns := [], harness := (true, "fac067183502847650b7920df25118b767bd830fcc9fb65519587a69978a2cb7"), looks := false }, kinds := [], alts := [], laidByText := true, laidKinds := [.data, .data, .data, .data, .pinned], laidTests := true, laidLooks := .later }
def GrammarRowsCardSaid : Prop := Claim7.holds Tryz.pinned (.plain (OpenSpec.ofChange grammarRowsSpec)) grammarRowsCard

/-- THE TIED CARD OF 'langdoclaw55.GrammarExamples'. -/
def grammarExamplesCard : Claim7 := { stood := { row := grammarExamplesRow, standIns := [], harness := (true, "fac067183502847650b7920df25118b767bd830fcc9fb65519587a69978a2cb7"), looks := false }, kinds := [], alts := [], laidByText := true, laidKinds := [.data, .data, .data, .data, .pinned], laidTests := true, laidLooks := .later }
def GrammarExamplesCardSaid : Prop := Claim7.holds Tryz.pinned (.plain (OpenSpec.ofChange grammarExamplesSpec)) grammarExamplesCard

/-- THE TIED CARD OF 'langdoclaw55.GrammarLines'. -/
def grammarLinesCard : Claim7 := { stood := { row := grammarLinesRow, standIns := [], harness := (true, "fac067183502847650b7920df25118b767bd830fcc9fb65519587a69978a2cb7"), looks := false }, kinds := [], alts := [], laidByText := true, laidKinds := [.data, .data, .data, .data, .pinned], laidTests := true, laidLooks := .later }
def GrammarLinesCardSaid : Prop := Claim7.holds Tryz.pinned (.plain (OpenSpec.ofChange grammarLinesSpec)) grammarLinesCard

/-- THE TIED CARD OF 'langdoclaw55.GrammarWords'. -/
def grammarWordsCard : Claim7 := { stood := { row := grammarWordsRow, standIns := [], harness := (true, "fac067183502847650b7920df25118b767bd830fcc9fb65519587a69978a2cb7"), looks := false }, kinds := [], alts := [], laidByText := true, laidKinds := [.data, .data, .data, .data, .pinned], laidTests := true, laidLooks := .later }
def GrammarWordsCardSaid : Prop := Claim7.holds Tryz.pinned (.plain (OpenSpec.ofChange grammarWordsSpec)) grammarWordsCard

/-- THE TIED CARD OF 'langdoclaw55.GrammarWide'. -/
def grammarWideCard : Claim7 := { stood := { row := grammarWideRow, standIns := [], harness := (true, "fac067183502847650b7920df25118b767bd830fcc9fb65519587a69978a2cb7"), looks := false }, kinds := [], alts := [], laidByText := true, laidKinds := [.data, .data, .data, .data, .pinned], laidTests := true, laidLooks := .later }
def GrammarWideCardSaid : Prop := Claim7.holds Tryz.pinned (.plain (OpenSpec.ofChange grammarWideSpec)) grammarWideCard

/-- THE TIED CARD OF 'langdoclaw55.GrammarGrows'. -/
def grammarGrowsCard : Claim7 := { stood := { row := grammarGrowsRow, standIns := [], harness := (true, "fac067183502847650b7920df25118b767bd830fcc9fb65519587a69978a2cb7"), looks := false }, kinds := [], alts := [], laidByText := true, laidKinds := [.data, .data, .data, .data, .pinned], laidTests := true, laidLooks := .later }
def GrammarGrowsCardSaid : Prop := Claim7.holds Tryz.pinned (.plain (OpenSpec.ofChange grammarGrowsSpec)) grammarGrowsCard

/-- THE SECOND FORM's CARD OF 'langdoclaw55.GrammarNumbers'. -/
def grammarNumbersUptoCard : Claim7 := { stood := { row := grammarNumbersUptoRow, standIns := [], harness := (true, "fac067183502847650b7920df25118b767bd830fcc9fb65519587a69978a2cb7"), looks := false }, kinds := [], alts := [], laidByText := true, laidKinds := [.data, .data, .data, .data, .pinned], laidTests := true, laidLooks := .later }
def GrammarNumbersUptoCardSaid : Prop := Claim7.holds Tryz.pinned (.plain (OpenSpec.upto grammarNumbersSpec)) grammarNumbersUptoCard

/-- THE SECOND FORM's CARD OF 'langdoclaw55.GrammarRows'. -/
def grammarRowsUptoCard : Claim7 := { stood := { row := grammarRowsUptoRow, standIns := [], harness := (true, "fac067183502847650b7920df25118b767bd830fcc9fb65519587a69978a2cb7"), looks := false }, kinds := [], alts := [], laidByText := true, laidKinds := [.data, .data, .data, .data, .pinned], laidTests := true, laidLooks := .later }
def GrammarRowsUptoCardSaid : Prop := Claim7.holds Tryz.pinned (.plain (OpenSpec.upto grammarRowsSpec)) grammarRowsUptoCard

/-- THE SECOND FORM's CARD OF 'langdoclaw55.GrammarExamples'. -/
def grammarExamplesUptoCard : Claim7 := { stood := { row := grammarExamplesUptoRow, standIns := [], harness := (true, "fac067183502847650b7920df25118b767bd830fcc9fb65519587a69978a2cb7"), looks := false }, kinds := [], alts := [], laidByText := true, laidKinds := [.data, .data, .data, .data, .pinned], laidTests := true, laidLooks := .later }
def GrammarExamplesUptoCardSaid : Prop := Claim7.holds Tryz.pinned (.plain (OpenSpec.upto grammarExamplesSpec)) grammarExamplesUptoCard

/-- THE SECOND FORM's CARD OF 'langdoclaw55.GrammarLines'. -/
def grammarLinesUptoCard : Claim7 := { stood := { row := grammarLinesUptoRow, standIns := [], harness := (true, "fac067183502847650b7920df25118b767bd830fcc9fb65519587a69978a2cb7"), looks := false }, kinds := [], alts := [], laidByText := true, laidKinds := [.data, .data, .data, .data, .pinned], laidTests := true, laidLooks := .later }
def GrammarLinesUptoCardSaid : Prop := Claim7.holds Tryz.pinned (.plain (OpenSpec.upto grammarLinesSpec)) grammarLinesUptoCard

/-- THE SECOND FORM's CARD OF 'langdoclaw55.GrammarWords'. -/
def grammarWordsUptoCard : Claim7 := { stood := { row := grammarWordsUptoRow, standIns := [], harness := (true, "fac067183502847650b7920df25118b767bd830fcc9fb65519587a69978a2cb7"), looks := false }, kinds := [], alts := [], laidByText := true, laidKinds := [.data, .data, .data, .data, .pinned], laidTests := true, laidLooks := .later }
def GrammarWordsUptoCardSaid : Prop := Claim7.holds Tryz.pinned (.plain (OpenSpec.upto grammarWordsSpec)) grammarWordsUptoCard

/-- THE SECOND FORM's CARD OF 'langdoclaw55.GrammarWide'. -/
def grammarWideUptoCard : Claim7 := { stood := { row := grammarWideUptoRow, standIns := [], harness := (true, "fac067183502847650b7920df25118b767bd830fcc9fb65519587a69978a2cb7"), looks := false }, kinds := [], alts := [], laidByText := true, laidKinds := [.data, .data, .data, .data, .pinned], laidTests := true, laidLooks := .later }
def GrammarWideUptoCardSaid : Prop := Claim7.holds Tryz.pinned (.plain (OpenSpec.upto grammarWideSpec)) grammarWideUptoCard

/-- THE SECOND FORM's CARD OF 'langdoclaw55.GrammarGrows'. -/
def grammarGrowsUptoCard : Claim7 := { stood := { row := grammarGrowsUptoRow, standIns := [], harness := (true, "fac067183502847650b7920df25118b767bd830fcc9fb65519587a69978a2cb7"), looks := false }, kinds := [], alts := [], laidByText := true, laidKinds := [.data, .data, .data, .data, .pinned], laidTests := true, laidLooks := .later }
def GrammarGrowsUptoCardSaid : Prop := Claim7.holds Tryz.pinned (.plain (OpenSpec.upto grammarGrowsSpec)) grammarGrowsUptoCard
end Rows
end Go.Proofs.YthcabnfcgjnlnaaGreatDoor
