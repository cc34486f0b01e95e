import Derived.Test.YtdpllfgnppeneaaGreatDoorUnit
namespace Go.Proofs.YtdpllfgnppeneaaGreatDoor
open Go.RowKit
set_option linter.unusedVariables false
set_option linter.unusedSimpArgs false

def vari (L : List (List ByteArray)) (i k : Nat) : ByteArray := (L.getD i []).getD k ⟨#[]⟩
/-- The variants ahead of variant k of letter i. -/
def seenAt (L : List (List ByteArray)) (i k : Nat) : List ByteArray := (L.take i).flatten ++ (L.getD i []).take k
def okVar (L : List (List ByteArray)) (i k : Nat) : Bool := Ok.label17B (vari L i k).data.toList && !hasB (seenAt L i k) (vari L i k)
def okLetter (L : List (List ByteArray)) (i : Nat) : Bool := !decide ((L.getD i []).length = 0) && Ok.allTo (okVar L i) (L.getD i []).length
def ok17 (ns : Nat) (nm : ByteArray) (U : List (ByteArray × List Int)) (L : List (List ByteArray)) : Bool :=
  Ok.nameB nm.data.toList && ((decide (U.length ≤ 100) && Ok.allTo (okUnit ns U) U.length) && (decide (L.length ≤ 100) && Ok.allTo (okLetter L) L.length))
theorem flat_step {L : List (List ByteArray)} {i : Nat} (hl : i < L.length) : (L.take (i + 1)).flatten = (L.take i).flatten ++ L.getD i [] := by
  rw [List.take_succ_eq_append_getElem hl, List.flatten_append]
  simp [List.getD, hl]
theorem flatC_len {L : List (List ByteArray)} (h : ∀ i, i < L.length → (L.getD i []).length ≤ 1048576) : ∀ i, i ≤ L.length → ((L.take i).flatten).length ≤ 1048576 * i
  | 0, _ => by simp
  | i + 1, hi => by
    have ih := flatC_len h i (by omega)
    have hx := h i (by omega)
    rw [flat_step (by omega), List.length_append]
    omega
theorem seenAt_len {L : List (List ByteArray)} (h : ∀ i, i < L.length → (L.getD i []).length ≤ 1048576) {i k : Nat} (hi : i ≤ L.length) (hk : k ≤ 1048576) : (seenAt L i k).length ≤ 1048576 * i + 1048576 := by
  have := flatC_len h i hi
  unfold seenAt
  rw [List.length_append, List.length_take]
  omega
theorem seenAt_next {L : List (List ByteArray)} {i k : Nat} (hk : k < (L.getD i []).length) : seenAt L i (k + 1) = seenAt L i k ++ [vari L i k] := by
  unfold seenAt vari
  generalize L.getD i [] = l at hk ⊢
  rw [List.take_succ_eq_append_getElem hk, List.append_assoc]
  have e : l.getD k ⟨#[]⟩ = l[k] := by simp [List.getD, hk]
  rw [e]
theorem seenAt_row {L : List (List ByteArray)} {i : Nat} (hi : i < L.length) : seenAt L (i + 1) 0 = seenAt L i (L.getD i []).length := by
  unfold seenAt
  rw [flat_step hi, List.take_zero, List.append_nil, List.take_length]
theorem rows_at' {w : World} {B : Nat} {A : Option Addr} {n k : Nat} {L : List (List ByteArray)} (h : RowsR w B A n L) (hk : k < n) :
    ∃ ad A' c', A = some ad ∧ ad.block < B ∧ w.cell? (ad.add k) = some (Value.slice A' (L.getD k []).length c') ∧ SR w B A' (L.getD k []).length (L.getD k []) := by
  obtain ⟨ad, l, A', n', c', e, hb, hl, hc, hs⟩ := h.at_ hk
  have e1 : L.getD k [] = l := by rw [List.getD, hl]; rfl
  have e2 : n' = l.length := hs.len.symm
  subst e2
  rw [e1]
  exact ⟨ad, A', c', e, hb, hc, hs⟩

/-- The two boxes of 'Check'. -/
structure CBox (w wr : World) (SA : Option Addr) (sn sc : Nat) (nm : ByteArray) (UA : Option Addr) (un uc : Nat) (LA : Option Addr) (ln lc : Nat) : Prop where
  inv : wr.cell? ⟨w.heap.size, 0, none⟩ = some (.slice SA sn sc)
  name : wr.cell? ⟨w.heap.size + 1, 0, none⟩ = some (.string nm)
  units : wr.cell? ⟨w.heap.size + 1, 1, none⟩ = some (.slice UA un uc)
  letters : wr.cell? ⟨w.heap.size + 1, 2, none⟩ = some (.slice LA ln lc)
theorem CBox.on {w wr w' : World} {SA : Option Addr} {sn sc : Nat} {nm : ByteArray} {UA : Option Addr} {un uc : Nat} {LA : Option Addr} {ln lc : Nat} (h : CBox w wr SA sn sc nm UA un uc LA ln lc) (hb : Below (w.heap.size + 1 + 1) wr w') : CBox w w' SA sn sc nm UA un uc LA ln lc :=
  ⟨(hb.cell (by show w.heap.size < _; omega)).trans h.inv, (hb.cell (by show w.heap.size + 1 < _; omega)).trans h.name, (hb.cell (by show w.heap.size + 1 < _; omega)).trans h.units, (hb.cell (by show w.heap.size + 1 < _; omega)).trans h.letters⟩

end Go.Proofs.YtdpllfgnppeneaaGreatDoor
