/-
  A ROW THAT IS SORTED IN PLACE: what the world holds while a call writes into n cells of one block and lays new blocks.
-/
import Derived.Test.YtacfeabdeaikhaaDoorWords
set_option linter.unusedVariables false
set_option linter.unusedSimpArgs false
namespace Go.Proofs.YtacfeabdeaikhaaDoor
open Go.RowKit

/-- Since w0: the n cells of block blk from off on hold enc (d 0) .. enc (d (n-1)); all else that was there is as it was; new blocks may have come. -/
structure SS {α : Type} (enc : α → Value) (w0 : World) (blk off n : Nat) (d : Nat → α) (W : World) : Prop where
  os : W.os = w0.os
  tape : W.tape = w0.tape
  output : W.output = w0.output
  size : w0.heap.size ≤ W.heap.size
  block : ∀ k, k < w0.heap.size → k ≠ blk → W.heap[k]? = w0.heap[k]?
  lt : blk < w0.heap.size
  cells : ∀ j, j < n → W.cell? ⟨blk, off + j, none⟩ = some (enc (d j))
  free : ∀ j, j < n → W.frozen? ⟨blk, off + j, none⟩ = false
  obj : ∃ c c' e fr, w0.heap[blk]? = some (.cells c e fr) ∧ W.heap[blk]? = some (.cells c' e fr) ∧ c'.size = c.size ∧ ∀ k, (k < off ∨ off + n ≤ k) → c'[k]? = c[k]?

section
variable {α : Type} {enc : α → Value} {w0 W W' : World} {blk off n : Nat} {d : Nat → α}
theorem SS.start (hb : blk < w0.heap.size) (hc : ∀ j, j < n → w0.cell? ⟨blk, off + j, none⟩ = some (enc (d j))) (hf : ∀ j, j < n → w0.frozen? ⟨blk, off + j, none⟩ = false) (ho : ∃ c e fr, w0.heap[blk]? = some (.cells c e fr)) :
    SS enc w0 blk off n d w0 := by
  obtain ⟨c, e, fr, h⟩ := ho
  exact ⟨rfl, rfl, rfl, Nat.le_refl _, fun _ _ _ => rfl, hb, hc, hf, c, c, e, fr, h, h, rfl, fun _ _ => rfl⟩
theorem SS.below (h : SS enc w0 blk off n d W) (hb : Below W.heap.size W W') : SS enc w0 blk off n d W' := by
  have hlt : blk < W.heap.size := Nat.lt_of_lt_of_le h.lt h.size
  refine ⟨hb.os.trans h.os, hb.tape.trans h.tape, hb.output.trans h.output, Nat.le_trans h.size hb.size, fun k hk hn => (hb.block k (Nat.lt_of_lt_of_le hk h.size)).trans (h.block k hk hn), h.lt,
    fun j hj => (hb.cell (p := ⟨blk, off + j, none⟩) hlt).trans (h.cells j hj), fun j hj => (hb.frozen (p := ⟨blk, off + j, none⟩) hlt).trans (h.free j hj), ?_⟩
  obtain ⟨c, c', e, fr, h1, h2, h3, h4⟩ := h.obj
  exact ⟨c, c', e, fr, h1, (hb.block blk hlt).trans h2, h3, h4⟩
theorem SS.drewN (h : SS enc w0 blk off n d W) (k : Nat) : SS enc w0 blk off n d (W.drewN k) := h.below (below_drewN (Below.refl _ _) k)
theorem SS.drew (h : SS enc w0 blk off n d W) : SS enc w0 blk off n d W.drew := h.drewN 1
theorem SS.alloc (h : SS enc w0 blk off n d W) (o : Obj) : SS enc w0 blk off n d (W.alloc o) := h.below ((Below.refl _ _).alloc (Nat.le_refl _) o)

def upd (d : Nat → α) (i : Nat) (x : α) : Nat → α := fun k => if k = i then x else d k
def swpF (d : Nat → α) (i j : Nat) : Nat → α := upd (upd d i (d j)) j (d i)
theorem SS.store (h : SS enc w0 blk off n d W) {i : Nat} (hi : i < n) (x : α) : SS enc w0 blk off n (upd d i x) (W.setCell ⟨blk, off + i, none⟩ (enc x)) := by
  obtain ⟨c, c', e, fr, h1, h2, h3, h4⟩ := h.obj
  refine ⟨h.os, h.tape, h.output, by simpa using h.size, fun k hk hn => ?_, h.lt, fun j hj => ?_, fun j hj => ?_, c, c'.setIfInBounds (off + i) (enc x), e, fr, h1, ?_, by simpa using h3, fun k hk => ?_⟩
  · rw [Below.heap_setCell _ _ _ _ (by simpa using hn)]; exact h.block k hk hn
  · by_cases e2 : j = i
    · subst e2
      rw [World.cell?_setCell_same _ _ _ (h.cells j hj)]
      simp [upd]
    · rw [World.cell?_setCell_other _ _ _ _ (by intro e'; simp only [Addr.mk.injEq] at e'; omega)]
      simp only [upd, if_neg e2]
      exact h.cells j hj
  · rw [World.frozen?_setCell]; exact h.free j hj
  · simp [World.setCell, Array.getElem?_modify, h2]
  · rw [Array.getElem?_setIfInBounds, if_neg (by omega)]; exact h4 k hk
theorem SS.swapped (h : SS enc w0 blk off n d W) {i j : Nat} (hi : i < n) (hj : j < n) :
    SS enc w0 blk off n (swpF d i j) ((W.setCell ⟨blk, off + i, none⟩ (enc (d j))).setCell ⟨blk, off + j, none⟩ (enc (d i))).drew := ((h.store hi (d j)).store hj (d i)).drew
theorem SS.c2 (h : SS enc w0 blk off n d W) {i j : Nat} (_hi : i < n) (hj : j < n) (v : Value) : ∃ u, (W.setCell ⟨blk, off + i, none⟩ v).cell? ⟨blk, off + j, none⟩ = some u := by
  by_cases e : i = j
  · subst e; exact ⟨v, World.cell?_setCell_same _ _ _ (h.cells i hj)⟩
  · exact ⟨_, (World.cell?_setCell_other _ _ _ _ (by intro e'; simp only [Addr.mk.injEq] at e'; omega)).trans (h.cells j hj)⟩
theorem SS.congr (h : SS enc w0 blk off n d W) {d' : Nat → α} (hd : ∀ j, j < n → d' j = d j) : SS enc w0 blk off n d' W :=
  ⟨h.os, h.tape, h.output, h.size, h.block, h.lt, fun j hj => by rw [hd j hj]; exact h.cells j hj, h.free, h.obj⟩
/-- What lies below a block number that the row is not below is kept. -/
theorem SS.belowBase (h : SS enc w0 blk off n d W) {B : Nat} (hB : B ≤ blk) : Below B w0 W :=
  ⟨h.os, h.tape, h.output, h.size, fun k hk => h.block k (by have := h.lt; omega) (by omega)⟩
theorem SS.cell (h : SS enc w0 blk off n d W) {p : Addr} (hp : p.block < w0.heap.size) (hn : p.block ≠ blk) : W.cell? p = w0.cell? p := World.cell?_of_block (h.block _ hp hn)
/-- The whole row of an owned slice, told again. -/
theorem SS.owned {base e c : Nat} {xs : List Value} (h : SS enc w0 blk 0 n d W) (ho : w0.ownsRow base e 1 (.slice (some ⟨blk, 0, none⟩) n c) n xs) (ys : List Value) (hl : ys.length = n) (hy : ∀ j, j < n → ys[j]? = some (enc (d j))) :
    W.ownsRow base e 1 (.slice (some ⟨blk, 0, none⟩) n c) n ys := by
  refine ⟨by simpa using hl, ?_⟩
  rcases ho.2 with ⟨h1, _⟩ | ⟨g, cap, cur, hv, hg, hh, hn, hm, hs, ht⟩
  · cases h1
  · injection hv with hv1 hv2 hv3
    injection hv1 with hv1
    injection hv1 with hv1
    subst hv1 hv3
    obtain ⟨c1, c', e', fr, h1, h2, h3, h4⟩ := h.obj
    rw [hh] at h1
    cases h1
    refine .inr ⟨blk, c, c', rfl, hg, h2, hn, hm, by rw [h3]; exact hs, ?_⟩
    apply List.ext_getElem?
    intro j
    by_cases hj : j < n
    · have hc := h.cells j hj
      simp only [World.cell?, h2, Nat.zero_add] at hc
      rw [hy j hj]
      rw [List.getElem?_take]
      simp at hc ⊢
      exact ⟨hj, hc⟩
    · rw [List.getElem?_eq_none (by simp; omega), List.getElem?_eq_none (by omega)]
end
end Go.Proofs.YtacfeabdeaikhaaDoor
