/-
  DERIVED. GIVEN WITH THE SEED: THE CARDS: each row of YtdpllfgnppeneaaGreatDoorRows.lean that lists a variable, with what it lists TIED to the program's text (the seventh form; the later family's looks); each row that meets fmt, with fmt's text TOLD by the authors' own Lean function (tested against real Go, not proved from fmt's source: count such statements apart). THE CARD IS WHAT COUNTS. Prove the row's statement (the work); the ties are given (YtdpllfgnppeneaaGreatDoorTie.lean); close each card by the builder's one call (the guide's Derived/Test/ToyasCard.lean, 'card_holds'). Laid BY PROGRAM, IN A SANDBOX (cutbox-door.mjs). By AI agents, Wed Nov 11 2026. No macro, syntax, notation, axiom, sorry.
-/
import Derived.Test.YtdpllfgnppeneaaGreatDoorRows
import GoSem.ClaimSeven
namespace Go.Proofs.YtdpllfgnppeneaaGreatDoor
namespace Rows

/-- THE TIED CARD OF 'langdoclaw39.ConcordHit'. -/
def concordHitCard : Claim7 := { stood := { row := concordHitRow, standIns := [], harness := (true, "889bab440b99133f2e9169f57f5b3ec5605f9fcc5339cf8c35c6e1caf8500aa3"), looks := false }, kinds := [], alts := [], laidByText := true, laidKinds := [.data, .pinned], laidTests := true, laidLooks := .later }
def ConcordHitCardSaid : Prop := Claim7.holds Tryz.pinned (.plain (OpenSpec.ofChange concordHitSpec)) concordHitCard

/-- THE TIED CARD OF 'langdoclaw39.ConcordAll'. -/
def concordAllCard : Claim7 := { stood := { row := concordAllRow, standIns := [], harness := (true, "889bab440b99133f2e9169f57f5b3ec5605f9fcc5339cf8c35c6e1caf8500aa3"), looks := false }, kinds := [], alts := [], laidByText := true, laidKinds := [.data, .pinned], laidTests := true, laidLooks := .later }
def ConcordAllCardSaid : Prop := Claim7.holds Tryz.pinned (.plain (OpenSpec.ofChange concordAllSpec)) concordAllCard

/-- THE SECOND FORM's CARD OF 'langdoclaw39.ConcordHit'. -/
def concordHitUptoCard : Claim7 := { stood := { row := concordHitUptoRow, standIns := [], harness := (true, "889bab440b99133f2e9169f57f5b3ec5605f9fcc5339cf8c35c6e1caf8500aa3"), looks := false }, kinds := [], alts := [], laidByText := true, laidKinds := [.data, .pinned], laidTests := true, laidLooks := .later }
def ConcordHitUptoCardSaid : Prop := Claim7.holds Tryz.pinned (.plain (OpenSpec.upto concordHitSpec)) concordHitUptoCard

/-- THE SECOND FORM's CARD OF 'langdoclaw39.ConcordAll'. -/
def concordAllUptoCard : Claim7 := { stood := { row := concordAllUptoRow, standIns := [], harness := (true, "889bab440b99133f2e9169f57f5b3ec5605f9fcc5339cf8c35c6e1caf8500aa3"), looks := false }, kinds := [], alts := [], laidByText := true, laidKinds := [.data, .pinned], laidTests := true, laidLooks := .later }
def ConcordAllUptoCardSaid : Prop := Claim7.holds Tryz.pinned (.plain (OpenSpec.upto concordAllSpec)) concordAllUptoCard
end Rows
end Go.Proofs.YtdpllfgnppeneaaGreatDoor
