/-
  DERIVED. GIVEN WITH THE SEED: THE CARDS: each row of YtplchlkdijjamaaDoorRows.lean that lists a variable, with what it lists TIED to the program's text (the seventh form; the later family's looks); each row that meets fmt, with fmt's text TOLD by the authors' own Lean function (tested against real Go, not proved from fmt's source: count such statements apart). THE CARD IS WHAT COUNTS. Prove the row's statement (the work); the ties are given (YtplchlkdijjamaaDoorTie.lean); close each card by the builder's one call (the guide's Derived/Test/ToyasCard.lean, 'card_holds'). Laid BY PROGRAM, IN A SANDBOX (cutbox-door.mjs). By AI agents, Wed Nov 11 2026. No macro, syntax, notation, axiom, sorry.
-/
import Derived.Test.YtplchlkdijjamaaDoorRows
import GoSem.ClaimSeven
namespace Go.Proofs.YtplchlkdijjamaaDoor
namespace Rows

/-- THE TIED CARD OF 'langdoclaw02.RunesPoints'. -/
def runesPointsCard : Claim7 := { stood := { row := runesPointsRow, standIns := [], harness := (true, "ea01a088cfb3ba6cc2ce89561a9331cd07b5a436eba99bcb17e61d0cfddaa4ae"), looks := false }, kinds := [], alts := [], laidByText := true, laidKinds := [.data, .pinned], laidTests := true, laidLooks := .later }
def RunesPointsCardSaid : Prop := Claim7.holds Tryd.pinned (.plain (OpenSpec.ofChange runesPointsSpec)) runesPointsCard

/-- THE TIED CARD OF 'langdoclaw02.RunesOf'. -/
def runesOfCard : Claim7 := { stood := { row := runesOfRow, standIns := [], harness := (true, "ea01a088cfb3ba6cc2ce89561a9331cd07b5a436eba99bcb17e61d0cfddaa4ae"), looks := false }, kinds := [], alts := [], laidByText := true, laidKinds := [.data, .pinned], laidTests := true, laidLooks := .later }
def RunesOfCardSaid : Prop := Claim7.holds Tryd.pinned (.plain (OpenSpec.ofChange runesOfSpec)) runesOfCard

/-- THE TIED CARD OF 'langdoclaw02.RunesClass'. -/
def runesClassCard : Claim7 := { stood := { row := runesClassRow, standIns := [], harness := (true, "ea01a088cfb3ba6cc2ce89561a9331cd07b5a436eba99bcb17e61d0cfddaa4ae"), looks := false }, kinds := [], alts := [], laidByText := true, laidKinds := [.data, .pinned], laidTests := true, laidLooks := .later }
def RunesClassCardSaid : Prop := Claim7.holds Tryd.pinned (.plain (OpenSpec.ofChange runesClassSpec)) runesClassCard

/-- THE TIED CARD OF 'langdoclaw02.RunesClusters'. -/
def runesClustersCard : Claim7 := { stood := { row := runesClustersRow, standIns := [], harness := (true, "ea01a088cfb3ba6cc2ce89561a9331cd07b5a436eba99bcb17e61d0cfddaa4ae"), looks := false }, kinds := [], alts := [], laidByText := true, laidKinds := [.data, .pinned], laidTests := true, laidLooks := .later }
def RunesClustersCardSaid : Prop := Claim7.holds Tryd.pinned (.plain (OpenSpec.ofChange runesClustersSpec)) runesClustersCard

/-- THE TIED CARD OF 'langdoclaw02.RunesOrders'. -/
def runesOrdersCard : Claim7 := { stood := { row := runesOrdersRow, standIns := [], harness := (true, "ea01a088cfb3ba6cc2ce89561a9331cd07b5a436eba99bcb17e61d0cfddaa4ae"), looks := false }, kinds := [], alts := [], laidByText := true, laidKinds := [.data, .pinned], laidTests := true, laidLooks := .later }
def RunesOrdersCardSaid : Prop := Claim7.holds Tryd.pinned (.plain (OpenSpec.ofChange runesOrdersSpec)) runesOrdersCard

/-- THE TIED CARD OF 'langdoclaw02.RunesWhole'. -/
def runesWholeCard : Claim7 := { stood := { row := runesWholeRow, standIns := [], harness := (true, "ea01a088cfb3ba6cc2ce89561a9331cd07b5a436eba99bcb17e61d0cfddaa4ae"), looks := false }, kinds := [], alts := [], laidByText := true, laidKinds := [.data, .pinned], laidTests := true, laidLooks := .later }
def RunesWholeCardSaid : Prop := Claim7.holds Tryd.pinned (.plain (OpenSpec.ofChange runesWholeSpec)) runesWholeCard

/-- THE TIED CARD OF 'langdoclaw02.RunesBack'. -/
def runesBackCard : Claim7 := { stood := { row := runesBackRow, standIns := [], harness := (true, "ea01a088cfb3ba6cc2ce89561a9331cd07b5a436eba99bcb17e61d0cfddaa4ae"), looks := false }, kinds := [], alts := [], laidByText := true, laidKinds := [.data, .pinned], laidTests := true, laidLooks := .later }
def RunesBackCardSaid : Prop := Claim7.holds Tryd.pinned (.plain (OpenSpec.ofChange runesBackSpec)) runesBackCard

/-- THE TIED CARD OF 'langdoclaw02.RunesAdds'. -/
def runesAddsCard : Claim7 := { stood := { row := runesAddsRow, standIns := [], harness := (true, "ea01a088cfb3ba6cc2ce89561a9331cd07b5a436eba99bcb17e61d0cfddaa4ae"), looks := false }, kinds := [], alts := [], laidByText := true, laidKinds := [.data, .pinned], laidTests := true, laidLooks := .later }
def RunesAddsCardSaid : Prop := Claim7.holds Tryd.pinned (.plain (OpenSpec.ofChange runesAddsSpec)) runesAddsCard

/-- THE TIED CARD OF 'langdoclaw02.RunesSwaps'. -/
def runesSwapsCard : Claim7 := { stood := { row := runesSwapsRow, standIns := [], harness := (true, "ea01a088cfb3ba6cc2ce89561a9331cd07b5a436eba99bcb17e61d0cfddaa4ae"), looks := false }, kinds := [], alts := [], laidByText := true, laidKinds := [.data, .pinned], laidTests := true, laidLooks := .later }
def RunesSwapsCardSaid : Prop := Claim7.holds Tryd.pinned (.plain (OpenSpec.ofChange runesSwapsSpec)) runesSwapsCard

/-- THE SECOND FORM's CARD OF 'langdoclaw02.RunesPoints'. -/
def runesPointsUptoCard : Claim7 := { stood := { row := runesPointsUptoRow, standIns := [], harness := (true, "ea01a088cfb3ba6cc2ce89561a9331cd07b5a436eba99bcb17e61d0cfddaa4ae"), looks := false }, kinds := [], alts := [], laidByText := true, laidKinds := [.data, .pinned], laidTests := true, laidLooks := .later }
def RunesPointsUptoCardSaid : Prop := Claim7.holds Tryd.pinned (.plain (OpenSpec.upto runesPointsSpec)) runesPointsUptoCard

/-- THE SECOND FORM's CARD OF 'langdoclaw02.RunesOf'. -/
def runesOfUptoCard : Claim7 := { stood := { row := runesOfUptoRow, standIns := [], harness := (true, "ea01a088cfb3ba6cc2ce89561a9331cd07b5a436eba99bcb17e61d0cfddaa4ae"), looks := false }, kinds := [], alts := [], laidByText := true, laidKinds := [.data, .pinned], laidTests := true, laidLooks := .later }
def RunesOfUptoCardSaid : Prop := Claim7.holds Tryd.pinned (.plain (OpenSpec.upto runesOfSpec)) runesOfUptoCard

/-- THE SECOND FORM's CARD OF 'langdoclaw02.RunesClass'. -/
def runesClassUptoCard : Claim7 := { stood := { row := runesClassUptoRow, standIns := [], harness := (true, "ea01a088cfb3ba6cc2ce89561a9331cd07b5a436eba99bcb17e61d0cfddaa4ae"), looks := false }, kinds := [], alts := [], laidByText := true, laidKinds := [.data, .pinned], laidTests := true, laidLooks := .later }
def RunesClassUptoCardSaid : Prop := Claim7.holds Tryd.pinned (.plain (OpenSpec.upto runesClassSpec)) runesClassUptoCard

/-- THE SECOND FORM's CARD OF 'langdoclaw02.RunesClusters'. -/
def runesClustersUptoCard : Claim7 := { stood := { row := runesClustersUptoRow, standIns := [], harness := (true, "ea01a088cfb3ba6cc2ce89561a9331cd07b5a436eba99bcb17e61d0cfddaa4ae"), looks := false }, kinds := [], alts := [], laidByText := true, laidKinds := [.data, .pinned], laidTests := true, laidLooks := .later }
def RunesClustersUptoCardSaid : Prop := Claim7.holds Tryd.pinned (.plain (OpenSpec.upto runesClustersSpec)) runesClustersUptoCard

/-- THE SECOND FORM's CARD OF 'langdoclaw02.RunesOrders'. -/
def runesOrdersUptoCard : Claim7 := { stood := { row := runesOrdersUptoRow, standIns := [], harness := (true, "ea01a088cfb3ba6cc2ce89561a9331cd07b5a436eba99bcb17e61d0cfddaa4ae"), looks := false }, kinds := [], alts := [], laidByText := true, laidKinds := [.data, .pinned], laidTests := true, laidLooks := .later }
def RunesOrdersUptoCardSaid : Prop := Claim7.holds Tryd.pinned (.plain (OpenSpec.upto runesOrdersSpec)) runesOrdersUptoCard

/-- THE SECOND FORM's CARD OF 'langdoclaw02.RunesWhole'. -/
def runesWholeUptoCard : Claim7 := { stood := { row := runesWholeUptoRow, standIns := [], harness := (true, "ea01a088cfb3ba6cc2ce89561a9331cd07b5a436eba99bcb17e61d0cfddaa4ae"), looks := false }, kinds := [], alts := [], laidByText := true, laidKinds := [.data, .pinned], laidTests := true, laidLooks := .later }
def RunesWholeUptoCardSaid : Prop := Claim7.holds Tryd.pinned (.plain (OpenSpec.upto runesWholeSpec)) runesWholeUptoCard

/-- THE SECOND FORM's CARD OF 'langdoclaw02.RunesBack'. -/
def runesBackUptoCard : Claim7 := { stood := { row := runesBackUptoRow, standIns := [], harness := (true, "ea01a088cfb3ba6cc2ce89561a9331cd07b5a436eba99bcb17e61d0cfddaa4ae"), looks := false }, kinds := [], alts := [], laidByText := true, laidKinds := [.data, .pinned], laidTests := true, laidLooks := .later }
def RunesBackUptoCardSaid : Prop := Claim7.holds Tryd.pinned (.plain (OpenSpec.upto runesBackSpec)) runesBackUptoCard

/-- THE SECOND FORM's CARD OF 'langdoclaw02.RunesAdds'. -/
def runesAddsUptoCard : Claim7 := { stood := { row := runesAddsUptoRow, standIns := [], harness := (true, "ea01a088cfb3ba6cc2ce89561a9331cd07b5a436eba99bcb17e61d0cfddaa4ae"), looks := false }, kinds := [], alts := [], laidByText := true, laidKinds := [.data, .pinned], laidTests := true, laidLooks := .later }
def RunesAddsUptoCardSaid : Prop := Claim7.holds Tryd.pinned (.plain (OpenSpec.upto runesAddsSpec)) runesAddsUptoCard

/-- THE SECOND FORM's CARD OF 'langdoclaw02.RunesSwaps'. -/
def runesSwapsUptoCard : Claim7 := { stood := { row := runesSwapsUptoRow, standIns := [], harness := (true, "ea01a088cfb3ba6cc2ce89561a9331cd07b5a436eba99bcb17e61d0cfddaa4ae"), looks := false }, kinds := [], alts := [], laidByText := true, laidKinds := [.data, .pinned], laidTests := true, laidLooks := .later }
def RunesSwapsUptoCardSaid : Prop := Claim7.holds Tryd.pinned (.plain (OpenSpec.upto runesSwapsSpec)) runesSwapsUptoCard
end Rows
end Go.Proofs.YtplchlkdijjamaaDoor
