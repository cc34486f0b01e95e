/-
  OPENING the arguments: what a reading of the form says of memory, in the words of this seat.
-/
import Derived.Test.YtdpllfgnppeneaaGreatDoorOpen
import Derived.Test.YtdpllfgnppeneaaGreatDoorRight
import Derived.Test.YtdpllfgnppeneaaGreatDoorRows
import Derived.Deep.Slices
import Derived.ChangeSame
import Derived.ChangeArms
import Derived.Lib.SmallJoins
namespace Go.Proofs.YtdpllfgnppeneaaGreatDoor
open Go.RowKit Go.ChangeShapes Go.WideShapes Go.ChangeAt Go.Deep Go.Joins
set_option linter.unusedVariables false
set_option linter.unusedSimpArgs false

theorem cellsString : Tryz.prog.cellsOf 9 = 1 := by kernel_rfl
theorem cellsStrings : Tryz.prog.cellsOf 33 = 1 := by kernel_rfl
theorem cellsInts : Tryz.prog.cellsOf 22 = 1 := by kernel_rfl

section
variable {H : Type} {enc : TypeId × Value → H} {w : World} {spare : Nat → Bool} {held : Bool} {fuel : Nat} {v : Value} {x : DataW H × List MemPlace}
theorem open_SR (hf : DataW.trod enc Tryz.prog w 0 spare held fuel 33 [v] = some x) : ∃ A n c l, v = .slice A n c ∧ SR w w.heap.size A n l ∧ n ≤ maxLen ∧ (∀ s, s ∈ l → s.size ≤ maxLen) ∧ n ≤ c ∧ c ≤ maxLen := by
  rcases open_slice1 Tryz.underlying33 cellsString hf with ⟨h0, _⟩ | ⟨a, len, cap, m, n, V, D, Pl, h0, _, hl, hm, hmm, _, hx⟩
  · injection h0 with h0
    subst h0
    exact ⟨none, 0, 0, [], rfl, Reads.none_, Nat.zero_le _, (fun s hs => by cases hs), Nat.le_refl _, Nat.zero_le _⟩
  · injection h0 with h0
    subst h0
    have hlm : len ≤ m := by rw [hmm]; split <;> omega
    obtain ⟨l, hlen, hL⟩ := list_of (α := ByteArray) (n := len) (p := fun i s => w.cell? (a.add i) = some (.string s) ∧ s.size ≤ maxLen) (fun i hi => by
      obtain ⟨h1, h2⟩ := hx i (by omega)
      obtain ⟨s, hs, _, hsz⟩ := DataW.trod_string Tryz.underlying9 h2
      injection hs with hs
      exact ⟨s, by rw [h1, hs], hsz⟩)
    refine ⟨some a, len, cap, l, rfl, ⟨by simpa using hlen, fun hn => ⟨a, rfl, ?_, fun j u hu => ?_⟩⟩, by omega, fun s hs => ?_, hl, hm⟩
    · have := World.block_lt_of_cell? w _ (hx 0 (by omega)).1
      rw [block_of_add] at this
      exact this
    · rw [List.getElem?_map] at hu
      cases hz : l[j]? with
      | none => rw [hz] at hu; cases hu
      | some s => rw [hz] at hu; cases hu; exact (hL j s hz).1
    · obtain ⟨j, hj⟩ := List.getElem?_of_mem hs
      exact (hL j s hj).2
theorem open_RowsR (hf : DataW.trod enc Tryz.prog w 0 spare held fuel 47 [v] = some x) : ∃ A n c L, v = .slice A n c ∧ RowsR w w.heap.size A n L ∧ n ≤ maxLen := by
  rcases open_slice1 Tryz.underlying47 cellsStrings hf with ⟨h0, _⟩ | ⟨a, len, cap, m, n, V, D, Pl, h0, _, hl, hm, hmm, _, hx⟩
  · injection h0 with h0
    subst h0
    exact ⟨none, 0, 0, [], rfl, ⟨[], Reads.none_, rfl, fun i l hl => by simp at hl⟩, Nat.zero_le _⟩
  · injection h0 with h0
    subst h0
    have hlm : len ≤ m := by rw [hmm]; split <;> omega
    obtain ⟨L, hlen, hL⟩ := list_of (α := List ByteArray) (n := len) (p := fun i l => ∃ A' n' c', w.cell? (a.add i) = some (.slice A' n' c') ∧ V i = .slice A' n' c' ∧ SR w w.heap.size A' n' l) (fun i hi => by
      obtain ⟨h1, h2⟩ := hx i (by omega)
      obtain ⟨A', n', c', l, hv, hs, _, _⟩ := open_SR h2
      exact ⟨l, A', n', c', by rw [h1, hv], hv, hs⟩)
    refine ⟨some a, len, cap, L, rfl, ⟨(List.range len).map V, ⟨by simp, fun hn => ⟨a, rfl, ?_, fun j u hu => ?_⟩⟩, hlen, fun i l hil => ?_⟩, by omega⟩
    · have := World.block_lt_of_cell? w _ (hx 0 (by omega)).1
      rw [block_of_add] at this
      exact this
    · have hj := (List.getElem?_eq_some_iff.1 hu).1
      simp at hj
      have e : some (V j) = some u := by rw [← hu]; simp [hj]
      injection e with e
      rw [← e]
      exact (hx j (by omega)).1
    · have hi : i < len := by rw [← hlen]; exact (List.getElem?_eq_some_iff.1 hil).1
      obtain ⟨A', n', c', _, hv, hs⟩ := hL i l hil
      exact ⟨A', n', c', by simp [hi, hv], hs⟩
theorem open_UnitsR (hf : DataW.trod enc Tryz.prog w 0 spare held fuel 48 [v] = some x) : ∃ A n c U, v = .slice A n c ∧ UnitsR w w.heap.size A n U ∧ n ≤ maxLen := by
  rcases open_slice Tryz.underlying48 hf with ⟨h0, _⟩ | ⟨a, len, cap, m, n, D, Pl, h0, _, hl, hm, hmm, _, hx⟩
  · injection h0 with h0
    subst h0
    exact ⟨none, 0, 0, [], rfl, ⟨rfl, fun h => by omega⟩, Nat.zero_le _⟩
  · injection h0 with h0
    subst h0
    have hlm : len ≤ m := by rw [hmm]; split <;> omega
    have hce : Tryz.prog.cellsOf 170 = 2 := by kernel_rfl
    rw [hce] at hx
    obtain ⟨U, hlen, hU⟩ := list_of (α := ByteArray × List Int) (n := len) (p := fun i s => w.cell? (a.add (i * 2)) = some (.string s.1) ∧ ∃ A' n' c', w.cell? (a.add (i * 2 + 1)) = some (.slice A' n' c') ∧ Reads w w.heap.size 1 A' n' (s.2.map (.int .i64))) (fun i hi => by
      obtain ⟨cs, h1, h2⟩ := hx i (by omega)
      obtain ⟨_, hcl, hcc⟩ := World.cells?_some h1
      obtain ⟨c0, c1, rfl⟩ : ∃ c0 c1, cs = [c0, c1] := by
        match cs, hcl with
        | [c0, c1], _ => exact ⟨c0, c1, rfl⟩
      obtain ⟨y0, y1, n', _, _, t0, t1⟩ := trod_struct2 Tryz.underlying170 h2
      simp only [cellsString, cellsInts, List.drop, List.take] at t0 t1
      obtain ⟨s, e0, _, _⟩ := DataW.trod_string Tryz.underlying9 t0
      obtain ⟨A', n', c', l, e1, hr, _⟩ := open_ints t1
      injection e0 with e0
      have q0 := hcc 0 (by omega)
      have q1 := hcc 1 (by omega)
      rw [add_of_add] at q0 q1
      exact ⟨(s, l), by simpa [e0] using q0, A', n', c', by simpa [e1] using q1, hr⟩)
    refine ⟨some a, len, cap, U, rfl, ⟨hlen, fun hn => ⟨a, rfl, ?_, hU⟩⟩, by omega⟩
    have := World.block_lt_of_cell? w _ (hU 0 U[0] (List.getElem?_eq_getElem (by omega))).1
    rw [block_of_add] at this
    exact this
end
end Go.Proofs.YtdpllfgnppeneaaGreatDoor
