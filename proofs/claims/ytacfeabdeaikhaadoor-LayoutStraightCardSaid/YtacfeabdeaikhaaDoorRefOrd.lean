import Derived.Test.YtacfeabdeaikhaaDoorRefOf
import Derived.IntWalk
namespace Go.Proofs.YtacfeabdeaikhaaDoor
open Go.RowKit Ru
set_option linter.unusedVariables false
set_option linter.unusedSimpArgs false

/-- A slice of points. -/
def NR (w : World) (B : Nat) (A : Option Addr) (n : Nat) (l : List Nat) : Prop := Reads w B 1 A n (l.map fun (p : Nat) => Value.int .i64 (p : Int))
theorem NR.at_ {w : World} {B n k : Nat} {A : Option Addr} {l : List Nat} (h : NR w B A n l) (hk : k < n) :
    ∃ ad x, A = some ad ∧ ad.block < B ∧ l[k]? = some x ∧ w.cell? (ad.add k) = some (.int .i64 (x : Int)) := by
  obtain ⟨ad, u, e, hb, hx, hc⟩ := Reads.at_ h hk
  rw [List.getElem?_map] at hx
  cases hz : l[k]? with
  | none => rw [hz] at hx; cases hx
  | some x => rw [hz] at hx; cases hx; exact ⟨ad, x, e, hb, rfl, hc⟩
theorem NR.len {w : World} {B n : Nat} {A : Option Addr} {l : List Nat} (h : NR w B A n l) : l.length = n := by simpa using h.1
theorem NR.on {w w' : World} {n : Nat} {A : Option Addr} {l : List Nat} (h : NR w w.heap.size A n l) (hb : Below w.heap.size w w') : NR w' w'.heap.size A n l := Reads.on h hb
theorem NR.ints {w : World} {B n : Nat} {A : Option Addr} {l : List Nat} (h : NR w B A n l) : IR w B A n (l.map fun (p : Nat) => (p : Int)) := by
  unfold IR NR at *
  rw [List.map_map]
  exact h
theorem ofI_nat {l : List Nat} (h : Sc l) : ofI (l.map fun (p : Nat) => (p : Int)) = some (encS l) := by
  unfold ofI
  rw [if_pos]
  · unfold encS
    rw [List.flatMap_map]
  · rw [List.all_eq_true]
    intro x hx
    obtain ⟨p, hp, rfl⟩ := List.mem_map.1 hx
    exact h p hp
theorem one_ints (l : List Nat) : ∀ u ∈ l.map (fun (p : Nat) => Value.int .i64 (p : Int)), u.oneCell' = true := by
  intro u hu
  obtain ⟨s, _, rfl⟩ := List.mem_map.1 hu
  rfl
theorem Reads.take {w : World} {B n m : Nat} {A : Option Addr} {xs : List Value} (h : Reads w B 1 A n xs) (hm : m ≤ n) : Reads w B 1 A m (xs.take m) := by
  refine ⟨by rw [List.length_take, h.1]; omega, fun h0 => ?_⟩
  obtain ⟨ad, e, hb, hc⟩ := h.2 (by omega)
  refine ⟨ad, e, hb, fun j u hu => ?_⟩
  rw [List.getElem?_take] at hu
  split at hu
  · exact hc j u hu
  · cases hu
theorem Reads.cut {w : World} {B n k cap : Nat} {A : Option Addr} {xs : List Value} (h : Reads w B 1 A n xs) (hk : k ≤ n) (hc : n ≤ cap) : Reads w B 1 (if cap = k then A else Option.map (fun x => x.add k) A) (n - k) (xs.drop k) := by
  refine ⟨by rw [List.length_drop, h.1]; omega, fun h0 => ?_⟩
  obtain ⟨ad, e, hb, hcell⟩ := h.2 (by omega)
  subst e
  rw [if_neg (by omega)]
  refine ⟨ad.add k, rfl, by rw [block_of_add]; exact hb, fun j u hu => ?_⟩
  rw [add_of_add]
  exact hcell _ u (by rw [← hu, List.getElem?_drop])

end Go.Proofs.YtacfeabdeaikhaaDoor
