/-
  SLICES OF SLICES OF STRINGS, as this chapter's walks read them; rows of integers that the call owns.
-/
import Derived.Test.YtacfeabdeaikhaaDoorWidth
import Derived.Lib.MinMax
namespace Go.Proofs.YtacfeabdeaikhaaDoor
open Go.RowKit Ru Lay
set_option linter.unusedVariables false
set_option linter.unusedSimpArgs false

/-- A slice of slices of strings reads as L. -/
def RowsR (w : World) (B : Nat) (A : Option Addr) (n : Nat) (L : List (List ByteArray)) : Prop :=
  ∃ xs, Reads w B 1 A n xs ∧ L.length = n ∧ ∀ (i : Nat) (l : List ByteArray), L[i]? = some l → ∃ A' n' c', xs[i]? = some (Value.slice A' n' c') ∧ SR w B A' n' l ∧ n' ≤ c' ∧ c' ≤ 9223372036854775807
theorem RowsR.at_ {w : World} {B n k : Nat} {A : Option Addr} {L : List (List ByteArray)} (h : RowsR w B A n L) (hk : k < n) :
    ∃ ad l A' n' c', A = some ad ∧ ad.block < B ∧ L[k]? = some l ∧ w.cell? (ad.add k) = some (Value.slice A' n' c') ∧ SR w B A' n' l ∧ n' ≤ c' ∧ c' ≤ 9223372036854775807 := by
  obtain ⟨xs, hr, hl, hi⟩ := h
  obtain ⟨ad, u, e, hb, hx, hc⟩ := hr.at_ hk
  have hlt : k < L.length := by omega
  obtain ⟨A', n', c', hx', hs, h1, h2⟩ := hi k L[k] (List.getElem?_eq_getElem hlt)
  rw [hx] at hx'
  cases hx'
  exact ⟨ad, L[k], A', n', c', e, hb, List.getElem?_eq_getElem hlt, hc, hs, h1, h2⟩
theorem RowsR.len {w : World} {B n : Nat} {A : Option Addr} {L : List (List ByteArray)} (h : RowsR w B A n L) : L.length = n := by obtain ⟨xs, hr, hl, hi⟩ := h; exact hl
theorem RowsR.below {w w' : World} {B n : Nat} {A : Option Addr} {L : List (List ByteArray)} (h : RowsR w B A n L) (hb : Below B w w') : RowsR w' B A n L := by
  obtain ⟨xs, hr, hl, hi⟩ := h
  refine ⟨xs, hr.below hb, hl, fun i l hil => ?_⟩
  obtain ⟨A', n', c', hx', hs, h1, h2⟩ := hi i l hil
  exact ⟨A', n', c', hx', Reads.below hs hb, h1, h2⟩
theorem RowsR.more {w : World} {B B' n : Nat} {A : Option Addr} {L : List (List ByteArray)} (h : RowsR w B A n L) (hB : B ≤ B') : RowsR w B' A n L := by
  obtain ⟨xs, hr, hl, hi⟩ := h
  refine ⟨xs, hr.more hB, hl, fun i l hil => ?_⟩
  obtain ⟨A', n', c', hx', hs, h1, h2⟩ := hi i l hil
  exact ⟨A', n', c', hx', Reads.more hs hB, h1, h2⟩
theorem RowsR.on {w w' : World} {n : Nat} {A : Option Addr} {L : List (List ByteArray)} (h : RowsR w w.heap.size A n L) (hb : Below w.heap.size w w') : RowsR w' w'.heap.size A n L := (h.below hb).more hb.size
theorem RowsR.none_ (w : World) (B : Nat) : RowsR w B none 0 [] := ⟨[], Reads.none_, rfl, fun i l h => by simp at h⟩
/-- Sizes that no sum of a walk outgrows. -/
def SzR (r : List ByteArray) : Prop := r.length ≤ 100000 ∧ ∀ s ∈ r, s.size ≤ 100000
def SzL (L : List (List ByteArray)) : Prop := L.length ≤ 100000 ∧ ∀ r ∈ L, SzR r
theorem SzL.row {L : List (List ByteArray)} (h : SzL L) {i : Nat} {r : List ByteArray} (hr : L[i]? = some r) : SzR r := h.2 r (List.mem_of_getElem? hr)
theorem SzR.cell {r : List ByteArray} (h : SzR r) {i : Nat} {s : ByteArray} (hs : r[i]? = some s) : s.size ≤ 100000 := h.2 s (List.mem_of_getElem? hs)
theorem SzL.nmax {L : List (List ByteArray)} (h : SzL L) : nmax L ≤ 100000 := nmax_le fun r hr => (h.2 r hr).1
theorem SzL.take {L : List (List ByteArray)} (h : SzL L) (k : Nat) : SzL (L.take k) := ⟨by have := h.1; rw [List.length_take]; omega, fun r hr => h.2 r (List.mem_of_mem_take hr)⟩
theorem SzL.col {L : List (List ByteArray)} (h : SzL L) (k : Nat) : colAt L k ≤ 100000 := colAt_le fun r hr s hs => (h.2 r hr).2 s hs
theorem SzR.cellB {r : List ByteArray} (h : SzR r) (k : Nat) : (cellB r k).size ≤ 100000 := by
  cases hk : r[k]? with
  | none => rw [cellB_none (by rw [List.getElem?_eq_none_iff] at hk; exact hk)]; exact Nat.zero_le _
  | some s => rw [cellB_some hk]; exact h.cell hk
/-- One element of a row of the call's own is stored. -/
theorem own_set {w : World} {base e g n cap : Nat} {xs : List Value} (j : Nat) (u : Value) (h : w.ownsRow base e 1 (.slice (some ⟨g, 0, none⟩) n cap) n xs) :
    (w.setCell ⟨g, j, none⟩ u).ownsRow base e 1 (.slice (some ⟨g, 0, none⟩) n cap) n (xs.set j u) ∧ Below base w (w.setCell ⟨g, j, none⟩ u) := by
  have h2 := h.stored j u
  exact ⟨h2.1, (Below.refl _ _).grown h2.2 (Nat.le_of_lt (Nat.lt_of_le_of_lt (h.lt g rfl).1 (h.lt g rfl).2)) fun k hk => by cases hk; exact (h.lt g rfl).1⟩
def intV (l : List Int) : List Value := l.map (.int .i64)
theorem intV_len (l : List Int) : (intV l).length = l.length := by unfold intV; simp
theorem intV_set (l : List Int) (j : Nat) (x : Int) : (intV l).set j (.int .i64 x) = intV (l.set j x) := by unfold intV; rw [List.map_set]
theorem intV_app (l : List Int) (x : Int) : intV l ++ [.int .i64 x] = intV (l ++ [x]) := by unfold intV; simp
/-- A row of integers of the call's own. -/
def OwnI (w : World) (base : Nat) (v : Value) (l : List Int) : Prop := w.ownsRow base 3 1 v l.length (intV l)
theorem OwnI.nil (w : World) (base : Nat) : OwnI w base (.slice none 0 0) [] := World.ownsRow_nil _ _ _ _
theorem OwnI.on {w w' : World} {base : Nat} {v : Value} {l : List Int} (h : OwnI w base v l) (hb : Below w.heap.size w w') : OwnI w' base v l := own_below h hb
theorem OwnI.form {w : World} {base : Nat} {v : Value} {l : List Int} (h : OwnI w base v l) : ∃ A c, v = .slice A l.length c ∧ l.length ≤ c ∧ c ≤ 9223372036854775807 ∧ IR w w.heap.size A l.length l := own_form h
theorem OwnI.at_ {w : World} {base : Nat} {v : Value} {l : List Int} (h : OwnI w base v l) {j : Nat} {x : Int} (hj : l[j]? = some x) :
    ∃ g cap, v = .slice (some ⟨g, 0, none⟩) l.length cap ∧ base ≤ g ∧ g < w.heap.size ∧ w.cell? ⟨g, j, none⟩ = some (.int .i64 x) ∧ w.frozen? ⟨g, j, none⟩ = false := by
  have hl := (List.getElem?_eq_some_iff.1 hj).1
  obtain ⟨g, cap, rfl, h1, h2⟩ := World.ownsRow.form h (by omega)
  refine ⟨g, cap, rfl, h1, h2, ?_, World.ownsRow.frozenAt h j⟩
  rw [World.ownsRow.cellAt h j (by omega)]
  unfold intV
  rw [List.getElem?_map, hj]
  rfl
theorem OwnI.set {w : World} {base g n cap : Nat} {l : List Int} (h : OwnI w base (.slice (some ⟨g, 0, none⟩) n cap) l) (hn : n = l.length) (j : Nat) (x : Int) :
    OwnI (w.setCell ⟨g, j, none⟩ (.int .i64 x)) base (.slice (some ⟨g, 0, none⟩) n cap) (l.set j x) ∧ Below base w (w.setCell ⟨g, j, none⟩ (.int .i64 x)) := by
  subst hn
  have h1 := own_set j (.int .i64 x) h
  rw [intV_set] at h1
  refine ⟨?_, h1.2⟩
  show World.ownsRow _ _ _ _ _ _ _
  rw [List.length_set]
  exact h1.1
theorem info_int2 : (Tryd.prog.info? 3).map (fun i => (i.zero, i.size, i.bytes)) = some (some (.int .i64 0), 1, 8) := by kernel_rfl

theorem take_at2 {α : Type} {l : List α} {k : Nat} {x : α} (h : l[k]? = some x) : l.take (k + 1) = l.take k ++ [x] := by rw [List.take_add_one, h]; rfl
set_option maxHeartbeats 400000 in
theorem cell_any (A : Option Addr) (n c : Nat) (r : List ByteArray) (k : Nat) (w : World) (hr : SR w w.heap.size A n r) (hn : n ≤ 9223372036854775807) (hk : k ≤ 9223372036854775807) :
    Calls Tryd.prog 35 #[.slice A n c, .int .i64 (k : Int)] w fun e w' => e = .returned (.string (cellB r k)) ∧ w = w' := by
  have hln := hr.len
  by_cases hlt : k < n
  · obtain ⟨ad, x, rfl, _, hx, hcx⟩ := hr.at_ hlt
    have HX : Hid (x = cellB r k) := (cellB_some hx).symm
    clear hx hln
    have hkz : (k : Int) < (n : Int) := by omega
    go_enter Tryd.func35, Tryd.ntmps35
    go_wp2
    go_ret
    exact ⟨ret_str HX.out, rfl⟩
  · have HX : Hid (⟨#[]⟩ = cellB r k) := (cellB_none (by omega)).symm
    clear hln
    have hkz : ¬ (k : Int) < (n : Int) := by omega
    go_enter Tryd.func35, Tryd.ntmps35
    go_wp2
    go_ret
    exact ⟨ret_str HX.out, rfl⟩
end Go.Proofs.YtacfeabdeaikhaaDoor
