/-
  A REGION THAT DRAWS ITS ORDER, IN A ROUND: what holds of it outside of a round holds in a round.
-/
import Derived.OrdersIn
import Derived.TacticsIn
import Derived.RangeFuncCalls
import Derived.OrdersHeld
import Derived.Deep.RegionHeld3
namespace Go.Proofs.YtacfeabdeaikhaaDoor
open Go
set_option linter.unusedVariables false
variable {P : Program} {ops : Array Oper} {Q : Exit → Act → World → Prop}

theorem operIn_of {l n : Nat} {o : Oper} {a : Act} {w : World} {K : Act → World → Prop} (hd : ∀ c, o.op ≠ .defer c) (h : o.wp P a w K Q) : o.wpIn (Fence.wide.inRound l) n P a w K Q := by
  refine ⟨fun _ _ => trivial, ?_⟩
  have e : o.semAt (Fence.wide.inRound l).round a.eval = execOp a.eval o := Oper.semAt_some l a.eval o hd
  rw [e]
  unfold Oper.wp at h
  generalize (execOp a.eval o).run P w = r at h ⊢
  cases r with
  | ok x w' =>
    cases x with
    | value v => exact h
    | skip => exact h
    | defer d => exact h
    | enter f args =>
      refine ⟨fun hh => ?_, CallsIn.inRound l (callsIn_wide.2 h)⟩
      cases hh
    | row row args =>
      refine ⟨fun hh => ?_, fun c cs _ => ?_⟩
      · cases hh
      · obtain ⟨v, w2, h1, h2⟩ := h c cs
        exact ⟨v, w2, h1, stepsIn_wide.2 h2⟩
    | _ => exact h.elim
  | halt x w' =>
    cases x with
    | panic v => exact h
    | _ => exact h.elim
theorem wpAnyIn_of {l n : Nat} (hd : ∀ (i : Nat) (o : Oper) c, ops[i]? = some o → o.op ≠ .defer c) (hQ : ¬ LetsOut Q) : ∀ (fuel : Nat) (listed : Array Bool) (a : Act) (w : World),
    wpAny P .any ops Q fuel listed a w → wpAnyIn (Fence.wide.inRound l) n P .any ops Q fuel listed a w
  | 0, _, _, _, h => h
  | fuel + 1, listed, a, w, h => by
    refine ⟨h.1, fun i hi => ?_⟩
    have h2 := h.2 i hi
    unfold wpOp at h2
    unfold wpOpIn
    cases ho : ops[i]? with
    | none =>
      rw [ho] at h2
      exact wpAnyIn_of hd hQ fuel _ a w h2
    | some o =>
      rw [ho] at h2
      simp only at h2 ⊢
      split
      · rename_i hw
        rw [if_pos hw] at h2
        rcases h2 with h2 | h2
        · exact operIn_of (fun c => hd i o c ho) (Oper.wp_mono (fun a' w' h' => wpAnyIn_of hd hQ fuel _ a' w' h') h2)
        · exact absurd h2.2 hQ
      · rename_i hw
        rw [if_neg hw] at h2
        exact ⟨fun _ _ => trivial, wpAnyIn_of hd hQ fuel _ _ w h2⟩
/-- **The region in a round, from the walk of all orders under S.** -/
theorem wpIn_region_held {l n id : Nat} {a : Act} {w : World} (S : World → Prop) (hm : P.follows .mixedOrders = true) (hd : (ops.all fun o => match o.op with | .defer _ => false | _ => true) = true) (hQ : ¬ LetsOut Q)
    (h : wpAnyH P .any ops Q S ops.size (Array.replicate ops.size false) a w.drew) : (Code.region id ops true).wpIn (Fence.wide.inRound l) n P Q a w := by
  refine wpIn_region_any hm (wpAnyIn_of ?_ hQ _ _ _ _ (wpAny_of_held _ _ _ _ h))
  intro i o c ho e
  have hi := (Array.getElem?_eq_some_iff.1 ho).1
  have := Array.all_eq_true.1 hd i hi
  rw [(Array.getElem?_eq_some_iff.1 ho).2, e] at this
  cases this
theorem wpIn_region_calm {l n id : Nat} {a : Act} {w : World} (S : World → Prop) (hm : P.follows .mixedOrders = true) (hd : (ops.all fun o => match o.op with | .defer _ => false | _ => true) = true) (hQ : ∀ a w, ¬ Q .outgrown a w)
    (h : wpAnyH P .any ops (NoPanic Q) S ops.size (Array.replicate ops.size false) a w.drew) : (Code.region id ops true).wpIn (Fence.wide.inRound l) n P Q a w :=
  Go.wpIn_mono (wpIn_region_held (Q := NoPanic Q) S hm hd (by rintro ⟨a1, w1, h1⟩; exact hQ a1 w1 h1) h) NoPanic.imp
end Go.Proofs.YtacfeabdeaikhaaDoor
