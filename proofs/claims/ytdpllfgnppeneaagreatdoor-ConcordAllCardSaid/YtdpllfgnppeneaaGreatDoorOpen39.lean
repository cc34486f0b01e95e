/-
  OPENING a slice of lines among the arguments.
-/
import Derived.Test.YtdpllfgnppeneaaGreatDoorOpenO
import Derived.Test.YtdpllfgnppeneaaGreatDoorOpen
import Derived.Test.YtdpllfgnppeneaaGreatDoorG06
import Derived.Lib.SmallJoins
namespace Go.Proofs.YtdpllfgnppeneaaGreatDoor
open Go.RowKit Go.ChangeShapes Go.WideShapes Go.ChangeAt Go.Deep Go.Joins Ru Lay
set_option linter.unusedVariables false
set_option linter.unusedSimpArgs false

instance instHvOpen : Inhabited Hv := ⟨{ toHt := ⟨0, 0, [], ⟨#[]⟩, []⟩, la := none, ln := 0, lc := 0, ra := none, rn := 0, rc := 0 }⟩
section
variable {H : Type} {enc : TypeId × Value → H} {w : World} {spare : Nat → Bool} {held : Bool} {fuel : Nat} {v : Value} {x : DataW H × List MemPlace}
theorem open_HitsR (hf : DataW.trod enc Tryz.prog w 0 spare held fuel 41 [v] = some x) : ∃ A n c l, v = .slice A n c ∧ HitsR w w.heap.size A n l ∧ n ≤ maxLen := by
  rcases open_slice Tryz.underlying41 hf with ⟨h0, _⟩ | ⟨a, len, cap, m, n, D, Pl, h0, _, hl, hm, hmm, _, hx⟩
  · injection h0 with h0
    subst h0
    exact ⟨none, 0, 0, [], rfl, ⟨RecR.none_, fun h hh => by cases hh⟩, Nat.zero_le _⟩
  · injection h0 with h0
    subst h0
    have hlm : len ≤ m := by rw [hmm]; split <;> omega
    have hce : Tryz.prog.cellsOf 35 = 5 := by kernel_rfl
    have hcr : Tryz.prog.cellsOf 32 = 2 := by kernel_rfl
    have hcl : Tryz.prog.cellsOf 33 = 1 := by kernel_rfl
    have hci : Tryz.prog.cellsOf 3 = 1 := by kernel_rfl
    have hcs : Tryz.prog.cellsOf 9 = 1 := by kernel_rfl
    rw [hce] at hx
    obtain ⟨U, hlen, hU⟩ := list_of (α := Hv) (n := len) (p := fun i s => (∀ j u, (encH s)[j]? = some u → w.cell? (a.add (i * 5 + j)) = some u) ∧ HvR w w.heap.size s) (fun i hi => by
      obtain ⟨cs, h1, h2⟩ := hx i (by omega)
      obtain ⟨_, hcl5, hcc⟩ := World.cells?_some h1
      obtain ⟨c0, c1, c2, c3, c4, rfl⟩ : ∃ c0 c1 c2 c3 c4, cs = [c0, c1, c2, c3, c4] := by
        match cs, hcl5 with
        | [c0, c1, c2, c3, c4], _ => exact ⟨c0, c1, c2, c3, c4, rfl⟩
      obtain ⟨y0, y1, y2, y3, n', _, _, t0, t1, t2, t3⟩ := trod_struct4 Tryz.underlying35 h2
      simp only [hcr, hcl, hcs, List.drop, List.take] at t0 t1 t2 t3
      obtain ⟨z0, z1, n2, _, _, r0, r1⟩ := trod_struct2 Tryz.underlying32 t0
      simp only [hci, List.drop, List.take] at r0 r1
      obtain ⟨s0, e0, _, _⟩ := DataW.trod_int Tryz.underlying3 r0
      obtain ⟨s1, e1, _, _⟩ := DataW.trod_int Tryz.underlying3 r1
      obtain ⟨A1, n1, k1, l1, e2, hr1, _, _, hk1, hm1⟩ := open_SR t1
      obtain ⟨s3, e3, _, _⟩ := DataW.trod_string Tryz.underlying9 t2
      obtain ⟨A4, n4, k4, l4, e4, hr4, _, _, hk4, hm4⟩ := open_SR t3
      injection e0 with e0
      injection e1 with e1
      injection e3 with e3
      subst e0 e1 e2 e3 e4
      refine ⟨{ toHt := ⟨s0, s1, l1, s3, l4⟩, la := A1, ln := n1, lc := k1, ra := A4, rn := n4, rc := k4 }, fun j u hu => ?_, ⟨hr1, hr4, ⟨hk1, by unfold maxLen at hm1; exact hm1⟩, ⟨hk4, by unfold maxLen at hm4; exact hm4⟩⟩⟩
      have hj : j < 5 := (List.getElem?_eq_some_iff.1 hu).1
      have := hcc j (by simpa using hj)
      rw [add_of_add] at this
      rw [this]
      exact hu)
    refine ⟨some a, len, cap, U, rfl, ⟨⟨⟨by rw [flat_len encH_len, hlen], fun hn => ⟨a, rfl, ?_, fun j u hu => ?_⟩⟩, hlen⟩, fun h hh => ?_⟩, by omega⟩
    · have h0 := (hU 0 U[0] (List.getElem?_eq_getElem (by omega))).1 0 _ rfl
      have := World.block_lt_of_cell? w _ h0
      rw [block_of_add] at this
      exact this
    · have hjl : j < len * 5 := by have := (List.getElem?_eq_some_iff.1 hu).1; rw [flat_len encH_len, hlen] at this; exact this
      have hk : j / 5 < U.length := by omega
      have hp := List.getElem?_eq_getElem hk
      have e : j / 5 * 5 + j % 5 = j := by omega
      have h1 := flat_at (f := encH) encH_len hp (show j % 5 < 5 by omega)
      rw [e, hu] at h1
      have := (hU (j / 5) _ hp).1 (j % 5) u h1.symm
      rw [e] at this
      exact this
    · obtain ⟨i, hi⟩ := List.getElem?_of_mem hh
      exact (hU i h hi).2
end
end Go.Proofs.YtdpllfgnppeneaaGreatDoor
