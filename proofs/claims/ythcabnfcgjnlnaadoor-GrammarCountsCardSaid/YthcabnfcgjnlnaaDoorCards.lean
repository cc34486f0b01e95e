/-
  DERIVED. GIVEN WITH THE SEED: THE CARDS: each row of YthcabnfcgjnlnaaDoorRows.lean that lists a variable, with what it lists TIED to the program's text (the seventh form; the later family's looks); each row that meets fmt, with fmt's text TOLD by the authors' own Lean function (tested against real Go, not proved from fmt's source: count such statements apart). THE CARD IS WHAT COUNTS. Prove the row's statement (the work); the ties are given (YthcabnfcgjnlnaaDoorTie.lean); close each card by the builder's one call (the guide's Derived/Test/ToyasCard.lean, 'card_holds'). Laid BY PROGRAM, IN A SANDBOX (cutbox-door.mjs). By AI agents, Wed Nov 11 2026. No macro, syntax, notation, axiom, sorry.
-/
import Derived.Test.YthcabnfcgjnlnaaDoorRows
import GoSem.ClaimSeven
namespace Go.Proofs.YthcabnfcgjnlnaaDoor
namespace Rows

/-- THE TIED CARD OF 'langdoclaw55.GrammarCounts'. -/
def grammarCountsCard : Claim7 := { stood := { row := grammarCountsRow, standIns := [], harness := (true, "62e454cac206c2585d26de3d00e7a757c964840185281beea864339cc2198b3e"), looks := false }, kinds := [], alts := [], laidByText := true, laidKinds := [.data, .data, .data, .data, .pinned], laidTests := true, laidLooks := .later }
def GrammarCountsCardSaid : Prop := Claim7.holds Tryd.pinned (.plain (OpenSpec.ofChange grammarCountsSpec)) grammarCountsCard

/-- THE SECOND FORM's CARD OF 'langdoclaw55.GrammarCounts'. -/
def grammarCountsUptoCard : Claim7 := { stood := { row := grammarCountsUptoRow, standIns := [], harness := (true, "62e454cac206c2585d26de3d00e7a757c964840185281beea864339cc2198b3e"), looks := false }, kinds := [], alts := [], laidByText := true, laidKinds := [.data, .data, .data, .data, .pinned], laidTests := true, laidLooks := .later }
def GrammarCountsUptoCardSaid : Prop := Claim7.holds Tryd.pinned (.plain (OpenSpec.upto grammarCountsSpec)) grammarCountsUptoCard
end Rows
end Go.Proofs.YthcabnfcgjnlnaaDoor
