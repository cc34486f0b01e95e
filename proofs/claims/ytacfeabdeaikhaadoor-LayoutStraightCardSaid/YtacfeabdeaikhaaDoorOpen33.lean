/-
  OPENING the arguments of the laws of this chapter.
-/
import Derived.Test.YtacfeabdeaikhaaDoorOpen
import Derived.Test.YtacfeabdeaikhaaDoorGCols
namespace Go.Proofs.YtacfeabdeaikhaaDoor
open Go.RowKit Go.ChangeShapes Go.WideShapes Go.ChangeAt Go.Deep Go.Joins
set_option linter.unusedVariables false
set_option linter.unusedSimpArgs false

theorem wf_i64 {x : Int} (h : (Lit.int .i64 x).wf = true) : -9223372036854775808 ≤ x ∧ x ≤ 9223372036854775807 := by
  unfold Lit.wf at h
  rw [Bool.and_eq_true, decide_eq_true_eq, decide_eq_true_eq] at h
  have h1 : IntKind.i64.min = -9223372036854775808 := by decide
  have h2 : IntKind.i64.max = 9223372036854775807 := by decide
  rw [h1, h2] at h
  exact h
theorem cellsString : Tryd.prog.cellsOf 9 = 1 := by kernel_rfl
theorem cellsStrings : Tryd.prog.cellsOf 36 = 1 := by kernel_rfl
section
variable {H : Type} {enc : TypeId × Value → H} {w : World} {spare : Nat → Bool} {held : Bool} {fuel : Nat} {v : Value} {x : DataW H × List MemPlace}
theorem open_intsR (hf : DataW.trod enc Tryd.prog w 0 spare held fuel 29 [v] = some x) : ∃ A n c, ∃ l : List Int, v = .slice A n c ∧ IR w w.heap.size A n l ∧ n ≤ maxLen ∧ ∀ x ∈ l, -9223372036854775808 ≤ x ∧ x ≤ 9223372036854775807 := by
  rcases open_slice1 Tryd.underlying29 cellsInt hf with ⟨h0, _⟩ | ⟨a, len, cap, m, n, V, D, Pl, h0, _, hl, hm, hmm, _, hx⟩
  · injection h0 with h0
    subst h0
    exact ⟨none, 0, 0, [], rfl, Reads.none_, Nat.zero_le _, fun x hx => by cases hx⟩
  · injection h0 with h0
    subst h0
    have hlm : len ≤ m := by rw [hmm]; split <;> omega
    obtain ⟨l, hlen, hL⟩ := list_of (α := Int) (n := len) (p := fun i s => w.cell? (a.add i) = some (.int .i64 s) ∧ -9223372036854775808 ≤ s ∧ s ≤ 9223372036854775807) (fun i hi => by
      obtain ⟨h1, h2⟩ := hx i (by omega)
      obtain ⟨s, hs, _, hw⟩ := DataW.trod_int Tryd.underlying3 h2
      injection hs with hs
      exact ⟨s, by rw [h1, hs], wf_i64 hw⟩)
    refine ⟨some a, len, cap, l, rfl, ⟨by simpa using hlen, fun hn => ⟨a, rfl, ?_, fun j u hu => ?_⟩⟩, by omega, fun x hx => ?_⟩
    · have := World.block_lt_of_cell? w _ (hx 0 (by omega)).1
      rw [block_of_add] at this
      exact this
    · rw [List.getElem?_map] at hu
      cases hz : l[j]? with
      | none => rw [hz] at hu; cases hu
      | some s => rw [hz] at hu; cases hu; exact (hL j s hz).1
    · obtain ⟨j, hj⟩ := List.getElem?_of_mem hx
      exact (hL j x hj).2
theorem open_SR (hf : DataW.trod enc Tryd.prog w 0 spare held fuel 36 [v] = some x) : ∃ A n c l, v = .slice A n c ∧ SR w w.heap.size A n l ∧ n ≤ c ∧ c ≤ 9223372036854775807 := by
  rcases open_slice1 Tryd.underlying36 cellsString hf with ⟨h0, _⟩ | ⟨a, len, cap, m, n, V, D, Pl, h0, _, hl, hm, hmm, _, hx⟩
  · injection h0 with h0
    subst h0
    exact ⟨none, 0, 0, [], rfl, Reads.none_, Nat.le_refl _, by omega⟩
  · injection h0 with h0
    subst h0
    have hlm : len ≤ m := by rw [hmm]; split <;> omega
    obtain ⟨l, hlen, hL⟩ := list_of (α := ByteArray) (n := len) (p := fun i s => w.cell? (a.add i) = some (.string s)) (fun i hi => by
      obtain ⟨h1, h2⟩ := hx i (by omega)
      obtain ⟨s, hs, _, hsz⟩ := DataW.trod_string Tryd.underlying9 h2
      injection hs with hs
      exact ⟨s, by rw [h1, hs]⟩)
    refine ⟨some a, len, cap, l, rfl, ⟨by simpa using hlen, fun hn => ⟨a, rfl, ?_, fun j u hu => ?_⟩⟩, hl, by unfold maxLen at hm; exact hm⟩
    · have := World.block_lt_of_cell? w _ (hx 0 (by omega)).1
      rw [block_of_add] at this
      exact this
    · rw [List.getElem?_map] at hu
      cases hz : l[j]? with
      | none => rw [hz] at hu; cases hu
      | some s => rw [hz] at hu; cases hu; exact hL j s hz
theorem open_RowsR (hf : DataW.trod enc Tryd.prog w 0 spare held fuel 26 [v] = some x) : ∃ A n c L, v = .slice A n c ∧ RowsR w w.heap.size A n L ∧ n ≤ maxLen := by
  rcases open_slice1 Tryd.underlying26 cellsStrings hf with ⟨h0, _⟩ | ⟨a, len, cap, m, n, V, D, Pl, h0, _, hl, hm, hmm, _, hx⟩
  · injection h0 with h0
    subst h0
    exact ⟨none, 0, 0, [], rfl, RowsR.none_ _ _, Nat.zero_le _⟩
  · injection h0 with h0
    subst h0
    have hlm : len ≤ m := by rw [hmm]; split <;> omega
    obtain ⟨L, hlen, hL⟩ := list_of (α := List ByteArray) (n := len) (p := fun i l => ∃ A' n' c', w.cell? (a.add i) = some (.slice A' n' c') ∧ V i = .slice A' n' c' ∧ SR w w.heap.size A' n' l ∧ n' ≤ c' ∧ c' ≤ 9223372036854775807) (fun i hi => by
      obtain ⟨h1, h2⟩ := hx i (by omega)
      obtain ⟨A', n', c', l, hv, hs, h3, h4⟩ := open_SR h2
      exact ⟨l, A', n', c', by rw [h1, hv], hv, hs, h3, h4⟩)
    refine ⟨some a, len, cap, L, rfl, ⟨(List.range len).map V, ⟨by simp, fun hn => ⟨a, rfl, ?_, fun j u hu => ?_⟩⟩, hlen, fun i l hil => ?_⟩, by omega⟩
    · have := World.block_lt_of_cell? w _ (hx 0 (by omega)).1
      rw [block_of_add] at this
      exact this
    · have hj := (List.getElem?_eq_some_iff.1 hu).1
      simp at hj
      have e : some (V j) = some u := by rw [← hu]; simp [hj]
      injection e with e
      rw [← e]
      exact (hx j (by omega)).1
    · have hi : i < len := by rw [← hlen]; exact (List.getElem?_eq_some_iff.1 hil).1
      obtain ⟨A', n', c', _, hv, hs, h3, h4⟩ := hL i l hil
      exact ⟨A', n', c', by simp [hi, hv], hs, h3, h4⟩
end
end Go.Proofs.YtacfeabdeaikhaaDoor
