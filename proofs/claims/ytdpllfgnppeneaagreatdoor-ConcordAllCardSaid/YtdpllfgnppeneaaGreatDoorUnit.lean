import Derived.Test.YtdpllfgnppeneaaGreatDoorCheck16
namespace Go.Proofs.YtdpllfgnppeneaaGreatDoor
open Go.RowKit
set_option linter.unusedVariables false
set_option linter.unusedSimpArgs false

/-- A slice of units reads as U. -/
def UnitsR (w : World) (B : Nat) (A : Option Addr) (n : Nat) (U : List (ByteArray × List Int)) : Prop :=
  U.length = n ∧ (0 < n → ∃ ad, A = some ad ∧ ad.block < B ∧ ∀ k x, U[k]? = some x → w.cell? (ad.add (k * 2)) = some (.string x.1) ∧
    ∃ A' n' c', w.cell? (ad.add (k * 2 + 1)) = some (.slice A' n' c') ∧ Reads w B 1 A' n' (x.2.map (.int .i64)))
theorem UnitsR.below {w w' : World} {B : Nat} {A : Option Addr} {n : Nat} {U : List (ByteArray × List Int)} (h : UnitsR w B A n U) (hb : Below B w w') : UnitsR w' B A n U :=
  ⟨h.1, fun hn => by
    obtain ⟨ad, e, hlt, hc⟩ := h.2 hn
    refine ⟨ad, e, hlt, fun k x hx => ?_⟩
    obtain ⟨h1, A', n', c', h2, h3⟩ := hc k x hx
    exact ⟨(hb.cell (by rw [block_of_add]; exact hlt)).trans h1, A', n', c', (hb.cell (by rw [block_of_add]; exact hlt)).trans h2, h3.below hb⟩⟩
theorem UnitsR.more {w : World} {B B' : Nat} {A : Option Addr} {n : Nat} {U : List (ByteArray × List Int)} (h : UnitsR w B A n U) (hB : B ≤ B') : UnitsR w B' A n U :=
  ⟨h.1, fun hn => by
    obtain ⟨ad, e, hlt, hc⟩ := h.2 hn
    refine ⟨ad, e, by omega, fun k x hx => ?_⟩
    obtain ⟨h1, A', n', c', h2, h3⟩ := hc k x hx
    exact ⟨h1, A', n', c', h2, h3.more hB⟩⟩
def graph (U : List (ByteArray × List Int)) (i : Nat) : ByteArray := (U.getD i (⟨#[]⟩, [])).1
def usegs (U : List (ByteArray × List Int)) (i : Nat) : List Int := (U.getD i (⟨#[]⟩, [])).2
theorem UnitsR.at_ {w : World} {B : Nat} {A : Option Addr} {n k : Nat} {U : List (ByteArray × List Int)} (h : UnitsR w B A n U) (hk : k < n) :
    ∃ ad A' n' c', A = some ad ∧ ad.block < B ∧ w.cell? (ad.add (k * 2)) = some (.string (graph U k)) ∧ w.cell? ⟨(ad.add (k * 2)).block, (ad.add (k * 2)).off + 1, none⟩ = some (.slice A' n' c') ∧
      w.cell? (ad.add (k * 2 + 1)) = some (.slice A' n' c') ∧ w.cell? ((ad.add (k * 2)).add 1) = some (.slice A' n' c') ∧ Reads w B 1 A' n' ((usegs U k).map (.int .i64)) := by
  obtain ⟨ad, e, hlt, hc⟩ := h.2 (by omega)
  have hl : k < U.length := by rw [h.1]; exact hk
  obtain ⟨h1, A', n', c', h2, h3⟩ := hc k U[k] (List.getElem?_eq_getElem hl)
  have g1 : graph U k = U[k].1 := by simp [graph, List.getD, hl]
  have g2 : usegs U k = U[k].2 := by simp [usegs, List.getD, hl]
  have h4 : w.cell? ((ad.add (k * 2)).add 1) = some (.slice A' n' c') := by rw [add_of_add]; exact h2
  exact ⟨ad, A', n', c', e, hlt, by rw [g1]; exact h1, field_at (by omega) h4, h2, h4, by rw [g2]; exact h3⟩
/-- One unit is right, of an inventory with ns segments. -/
def okUnit (ns : Nat) (U : List (ByteArray × List Int)) (i : Nat) : Bool :=
  Ok.label17B (graph U i).data.toList && (Ok.allTo (fun k => !decide (graph U k = graph U i)) i &&
    ((decide (1 ≤ (usegs U i).length) && decide ((usegs U i).length ≤ 3)) && Ok.allTo (fun k => decide (1 ≤ (usegs U i).getD k 0) && decide ((usegs U i).getD k 0 ≤ (ns : Int))) (usegs U i).length))

/-- The three boxes of 'unit'. -/
structure UBox (w wr : World) (SA : Option Addr) (sn sc : Nat) (ad : Addr) (n c : Nat) (g : ByteArray) (A' : Option Addr) (n' c' : Nat) : Prop where
  inv : wr.cell? ⟨w.heap.size, 0, none⟩ = some (.slice SA sn sc)
  units : wr.cell? ⟨w.heap.size + 1, 1, none⟩ = some (.slice (some ad) n c)
  graph : wr.cell? ⟨w.heap.size + 1 + 1, 0, none⟩ = some (.string g)
  segs : wr.cell? ⟨w.heap.size + 1 + 1, 1, none⟩ = some (.slice A' n' c')
theorem UBox.on {w wr w' : World} {SA : Option Addr} {sn sc : Nat} {ad : Addr} {n c : Nat} {g : ByteArray} {A' : Option Addr} {n' c' : Nat} (h : UBox w wr SA sn sc ad n c g A' n' c') (hb : Below (w.heap.size + 1 + 1 + 1) wr w') : UBox w w' SA sn sc ad n c g A' n' c' :=
  ⟨(hb.cell (by show w.heap.size < _; omega)).trans h.inv, (hb.cell (by show w.heap.size + 1 < _; omega)).trans h.units, (hb.cell (by show w.heap.size + 1 + 1 < _; omega)).trans h.graph, (hb.cell (by show w.heap.size + 1 + 1 < _; omega)).trans h.segs⟩
theorem UBox.drewN {w wr : World} {SA : Option Addr} {sn sc : Nat} {ad : Addr} {n c : Nat} {g : ByteArray} {A' : Option Addr} {n' c' : Nat} (h : UBox w wr SA sn sc ad n c g A' n' c') (k : Nat) : UBox w (wr.drewN k) SA sn sc ad n c g A' n' c' := ⟨h.inv, h.units, h.graph, h.segs⟩
end Go.Proofs.YtdpllfgnppeneaaGreatDoor
