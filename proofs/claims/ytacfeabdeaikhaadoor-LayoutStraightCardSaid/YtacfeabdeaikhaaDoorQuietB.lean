/-
  A REGION THAT DRAWS ITS ORDER, whose operations only read, and whose callees read and may lay new blocks: walked once, in the order of the text. (Derived/Deep/Quiet.lean's theorem at the class 'all that was there is as it was'.)
-/
import Derived.Test.YtacfeabdeaikhaaDoorWords
import Derived.Deep.QuietTactic
import Derived.BigQuiet
namespace Go.Proofs.YtacfeabdeaikhaaDoor
open Go.RowKit

/-- The worlds in which all that lies in w is as it was. -/
structure BW (w : World) where
  at_ : World
  bel : Below w.heap.size w at_
instance (w : World) : Inhabited (BW w) := ⟨⟨w, Below.refl _ _⟩⟩
theorem wp_region_quiet_below {P : Program} {id : Nat} {Q : Exit → Act → World → Prop} {a : Act} {w : World} {l : List Oper} (hm : P.follows .mixedOrders = true) (hB : Region.lexB .any l.toArray = true)
    (h : wpQuiet P l.toArray (fun w' => ∃ p : BW w, w' = p.at_) (fun a' => ∀ w', (∃ p : BW w, w' = p.at_) → Q .normal a' w') l a) : (Code.region id l.toArray true).wp P Q a w :=
  wp_region_quiet (C := fun w' => ∃ p : BW w, w' = p.at_) hm hB ⟨⟨w.drew, (Below.refl _ _).drew⟩, rfl⟩ (by simpa using h)
theorem below_quiet {P : Program} {f : FuncId} {args : Array Value} {w : World} {p : BW w} {v : Value}
    (h : Calls P f args p.at_ fun e w' => e = .returned v ∧ Below p.at_.heap.size p.at_ w') : Calls P f args p.at_ fun e w'' => e = .returned v ∧ ∃ q : BW w, w'' = q.at_ :=
  h.mono fun _ _ ⟨he, hb⟩ => ⟨he, ⟨_, p.bel.trans (hb.mono p.bel.size)⟩, rfl⟩
theorem below_quiet' {P : Program} {f : FuncId} {args : Array Value} {w : World} {p : BW w} {v : Value}
    (h : Calls P f args p.at_ fun e w' => e = .returned v ∧ Below w.heap.size p.at_ w') : Calls P f args p.at_ fun e w'' => e = .returned v ∧ ∃ q : BW w, w'' = q.at_ :=
  h.mono fun _ _ ⟨he, hb⟩ => ⟨he, ⟨_, p.bel.trans hb⟩, rfl⟩
theorem same_quiet {P : Program} {f : FuncId} {args : Array Value} {w : World} {p : BW w} {v : Value}
    (h : Calls P f args p.at_ fun e w' => e = .returned v ∧ p.at_ = w') : Calls P f args p.at_ fun e w'' => e = .returned v ∧ ∃ q : BW w, w'' = q.at_ :=
  h.mono fun _ _ ⟨he, hb⟩ => ⟨he, p, hb.symm⟩
theorem drew_quiet {P : Program} {f : FuncId} {args : Array Value} {w : World} {p : BW w} {v : Value}
    (h : Calls P f args p.at_ fun e w' => e = .returned v ∧ ∃ k, w' = p.at_.drewN k) : Calls P f args p.at_ fun e w'' => e = .returned v ∧ ∃ q : BW w, w'' = q.at_ :=
  h.mono fun _ _ ⟨he, k, hb⟩ => ⟨he, ⟨_, below_drewN p.bel k⟩, hb⟩
theorem bw_below {w w' : World} (h : ∃ p : BW w, w' = p.at_) : Below w.heap.size w w' := by
  obtain ⟨p, rfl⟩ := h
  exact p.bel
theorem cell_bw {w : World} {a : Addr} {v : Value} (h : w.cell? a = some v) (hl : a.block < w.heap.size) (p : BW w) : p.at_.cell? a = some v := (p.bel.cell hl).trans h
end Go.Proofs.YtacfeabdeaikhaaDoor
