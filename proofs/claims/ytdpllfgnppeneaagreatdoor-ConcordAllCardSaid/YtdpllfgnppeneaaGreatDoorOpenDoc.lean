/-
  OPENING a document among the arguments.
-/
import Derived.Test.YtdpllfgnppeneaaGreatDoorOpen39
import Derived.Test.YtdpllfgnppeneaaGreatDoorTier
import Derived.Test.YtdpllfgnppeneaaGreatDoorG06
namespace Go.Proofs.YtdpllfgnppeneaaGreatDoor
open Go.RowKit Go.ChangeShapes Go.WideShapes Go.ChangeAt Go.Deep Go.Joins Ru Lay
set_option linter.unusedVariables false
set_option linter.unusedSimpArgs false

instance instNtOpen : Inhabited Nt := ⟨nt0⟩
instance instTiOpen : Inhabited Ti := ⟨ti0⟩
theorem wf_i64 {x : Int} (h : (Lit.int .i64 x).wf = true) : -9223372036854775808 ≤ x ∧ x ≤ 9223372036854775807 := by
  unfold Lit.wf at h
  rw [Bool.and_eq_true, decide_eq_true_eq, decide_eq_true_eq] at h
  have h1 : IntKind.i64.min = -9223372036854775808 := by decide
  have h2 : IntKind.i64.max = 9223372036854775807 := by decide
  rw [h1, h2] at h
  exact h
theorem array7 {α : Type} {cs : Array α} (h : cs.size = 7) : ∃ c0 c1 c2 c3 c4 c5 c6, cs = #[c0, c1, c2, c3, c4, c5, c6] := by
  obtain ⟨l⟩ := cs
  match l, h with
  | [c0, c1, c2, c3, c4, c5, c6], _ => exact ⟨c0, c1, c2, c3, c4, c5, c6, rfl⟩
section
variable {H : Type} {enc : TypeId × Value → H} {w : World} {spare : Nat → Bool} {held : Bool} {fuel : Nat} {v : Value} {x : DataW H × List MemPlace}
theorem trod_fields {t : TypeId} {fs : Array Field} {cs : List Value} (ht : Tryz.prog.underlying t = some (.struct fs)) (h : DataW.trod enc Tryz.prog w 0 spare held fuel t cs = some x) :
    ∃ n, ∀ (i : Nat) (f : Field), fs[i]? = some f → ∃ y, DataW.trod enc Tryz.prog w 0 spare held n f.type ((cs.drop f.offset).take (Tryz.prog.cellsOf f.type)) = some y := by
  obtain ⟨xs, n, _, _, _, hlen, hs⟩ := DataW.trod_struct ht h
  refine ⟨n, fun i f hf => ?_⟩
  have hi : i < xs.length := by rw [hlen]; exact (Array.getElem?_eq_some_iff.1 hf).1
  exact ⟨xs[i], by rw [hs i f hf]; exact List.getElem?_eq_getElem hi⟩
theorem int_of {c : Value} (h : DataW.trod enc Tryz.prog w 0 spare held fuel 3 [c] = some x) : ∃ s, c = .int .i64 s := by
  obtain ⟨s, e, _, _⟩ := DataW.trod_int Tryz.underlying3 h
  injection e with e
  exact ⟨s, e⟩
theorem str_of {c : Value} (h : DataW.trod enc Tryz.prog w 0 spare held fuel 9 [c] = some x) : ∃ s, c = .string s ∧ s.size ≤ maxLen := by
  obtain ⟨s, e, _, hs⟩ := DataW.trod_string Tryz.underlying9 h
  injection e with e
  exact ⟨s, e, hs⟩
theorem note_of {c0 c1 c2 c3 c4 c5 c6 : Value} (h : DataW.trod enc Tryz.prog w 0 spare held fuel 58 [c0, c1, c2, c3, c4, c5, c6] = some x) : ∃ n : Nt, [c0, c1, c2, c3, c4, c5, c6] = encN n := by
  have hcp : Tryz.prog.cellsOf 56 = 2 := by kernel_rfl
  have hci : Tryz.prog.cellsOf 3 = 1 := by kernel_rfl
  have hcs : Tryz.prog.cellsOf 9 = 1 := by kernel_rfl
  obtain ⟨n, hs⟩ := trod_fields Tryz.underlying58 h
  obtain ⟨_, t0⟩ : ∃ y, DataW.trod enc Tryz.prog w 0 spare held n 3 (([c0, c1, c2, c3, c4, c5, c6].drop 0).take (Tryz.prog.cellsOf 3)) = some y := hs 0 _ rfl
  obtain ⟨_, t1⟩ : ∃ y, DataW.trod enc Tryz.prog w 0 spare held n 3 (([c0, c1, c2, c3, c4, c5, c6].drop 1).take (Tryz.prog.cellsOf 3)) = some y := hs 1 _ rfl
  obtain ⟨_, t2⟩ : ∃ y, DataW.trod enc Tryz.prog w 0 spare held n 3 (([c0, c1, c2, c3, c4, c5, c6].drop 2).take (Tryz.prog.cellsOf 3)) = some y := hs 2 _ rfl
  obtain ⟨_, t3⟩ : ∃ y, DataW.trod enc Tryz.prog w 0 spare held n 56 (([c0, c1, c2, c3, c4, c5, c6].drop 3).take (Tryz.prog.cellsOf 56)) = some y := hs 3 _ rfl
  obtain ⟨_, t4⟩ : ∃ y, DataW.trod enc Tryz.prog w 0 spare held n 3 (([c0, c1, c2, c3, c4, c5, c6].drop 5).take (Tryz.prog.cellsOf 3)) = some y := hs 4 _ rfl
  obtain ⟨_, t5⟩ : ∃ y, DataW.trod enc Tryz.prog w 0 spare held n 9 (([c0, c1, c2, c3, c4, c5, c6].drop 6).take (Tryz.prog.cellsOf 9)) = some y := hs 5 _ rfl
  simp only [hcp, hci, hcs, List.drop, List.take] at t0 t1 t2 t3 t4 t5
  obtain ⟨n2, hr⟩ := trod_fields Tryz.underlying56 t3
  obtain ⟨_, r0⟩ : ∃ y, DataW.trod enc Tryz.prog w 0 spare held n2 3 (([c3, c4].drop 0).take (Tryz.prog.cellsOf 3)) = some y := hr 0 _ rfl
  obtain ⟨_, r1⟩ : ∃ y, DataW.trod enc Tryz.prog w 0 spare held n2 3 (([c3, c4].drop 1).take (Tryz.prog.cellsOf 3)) = some y := hr 1 _ rfl
  simp only [hci, List.drop, List.take] at r0 r1
  obtain ⟨s0, rfl⟩ := int_of t0
  obtain ⟨s1, rfl⟩ := int_of t1
  obtain ⟨s2, rfl⟩ := int_of t2
  obtain ⟨s3, rfl⟩ := int_of r0
  obtain ⟨s4, rfl⟩ := int_of r1
  obtain ⟨s5, rfl⟩ := int_of t4
  obtain ⟨s6, rfl, _⟩ := str_of t5
  exact ⟨⟨s0, s1, s2, s3, s4, s5, s6⟩, rfl⟩
theorem tier_of {c0 c1 c2 c3 : Value} (h : DataW.trod enc Tryz.prog w 0 spare held fuel 68 [c0, c1, c2, c3] = some x) : ∃ n : Ti, [c0, c1, c2, c3] = encT n ∧ n.name.size ≤ 9223372036854775807 := by
  have hci : Tryz.prog.cellsOf 3 = 1 := by kernel_rfl
  have hcs : Tryz.prog.cellsOf 9 = 1 := by kernel_rfl
  obtain ⟨n, hs⟩ := trod_fields Tryz.underlying68 h
  obtain ⟨_, t0⟩ : ∃ y, DataW.trod enc Tryz.prog w 0 spare held n 9 (([c0, c1, c2, c3].drop 0).take (Tryz.prog.cellsOf 9)) = some y := hs 0 _ rfl
  obtain ⟨_, t1⟩ : ∃ y, DataW.trod enc Tryz.prog w 0 spare held n 3 (([c0, c1, c2, c3].drop 1).take (Tryz.prog.cellsOf 3)) = some y := hs 1 _ rfl
  obtain ⟨_, t2⟩ : ∃ y, DataW.trod enc Tryz.prog w 0 spare held n 3 (([c0, c1, c2, c3].drop 2).take (Tryz.prog.cellsOf 3)) = some y := hs 2 _ rfl
  obtain ⟨_, t3⟩ : ∃ y, DataW.trod enc Tryz.prog w 0 spare held n 3 (([c0, c1, c2, c3].drop 3).take (Tryz.prog.cellsOf 3)) = some y := hs 3 _ rfl
  simp only [hci, hcs, List.drop, List.take] at t0 t1 t2 t3
  obtain ⟨s0, rfl, h0⟩ := str_of t0
  obtain ⟨s1, rfl⟩ := int_of t1
  obtain ⟨s2, rfl⟩ := int_of t2
  obtain ⟨s3, rfl⟩ := int_of t3
  exact ⟨⟨s0, s1, s2, s3⟩, rfl, by unfold maxLen at h0; exact h0⟩
/-- A slice of records whose cells are known to be those of some record. -/
theorem recR_of {α : Type} [Inhabited α] {f : α → List Value} {s len : Nat} {a : Addr} {p : α → Prop} (hs : 0 < s) (hf : ∀ x, (f x).length = s) (h : ∀ i, i < len → ∃ x : α, (∀ j u, (f x)[j]? = some u → w.cell? (a.add (i * s + j)) = some u) ∧ p x) :
    ∃ l, RecR f s w w.heap.size (some a) len l ∧ ∀ x ∈ l, p x := by
  obtain ⟨U, hlen, hU⟩ := list_of (α := α) (n := len) (p := fun i x => (∀ j u, (f x)[j]? = some u → w.cell? (a.add (i * s + j)) = some u) ∧ p x) h
  refine ⟨U, ⟨⟨by rw [flat_len hf, hlen], fun hn => ⟨a, rfl, ?_, fun j u hu => ?_⟩⟩, hlen⟩, fun x hx => ?_⟩
  · have hl0 : 0 < (f U[0]).length := by rw [hf]; exact hs
    have h0 := (hU 0 U[0] (List.getElem?_eq_getElem (by omega))).1 0 _ (List.getElem?_eq_getElem hl0)
    have := World.block_lt_of_cell? w _ h0
    rw [block_of_add] at this
    exact this
  · have hjl : j < len * s := by have := (List.getElem?_eq_some_iff.1 hu).1; rw [flat_len hf, hlen] at this; exact this
    have hk : j / s < U.length := by rw [hlen]; exact Nat.div_lt_of_lt_mul (by rw [Nat.mul_comm]; exact hjl)
    have hp := List.getElem?_eq_getElem hk
    have e : j / s * s + j % s = j := by rw [Nat.mul_comm]; exact Nat.div_add_mod j s
    have h1 := flat_at (f := f) hf hp (Nat.mod_lt j hs)
    rw [e, hu] at h1
    have := (hU (j / s) _ hp).1 (j % s) u h1.symm
    rw [e] at this
    exact this
  · obtain ⟨i, hi⟩ := List.getElem?_of_mem hx
    exact (hU i x hi).2
theorem open_NotesR (hf : DataW.trod enc Tryz.prog w 0 spare held fuel 26 [v] = some x) : ∃ A n c l, v = .slice A n c ∧ NotesR w w.heap.size A n l ∧ n ≤ maxLen := by
  rcases open_slice Tryz.underlying26 hf with ⟨h0, _⟩ | ⟨a, len, cap, m, n, D, Pl, h0, _, hl, hm, hmm, _, hx⟩
  · injection h0 with h0
    subst h0
    exact ⟨none, 0, 0, [], rfl, RecR.none_, Nat.zero_le _⟩
  · injection h0 with h0
    subst h0
    have hlm : len ≤ m := by rw [hmm]; split <;> omega
    have hce : Tryz.prog.cellsOf 58 = 7 := by kernel_rfl
    rw [hce] at hx
    obtain ⟨l, hr, _⟩ := recR_of (w := w) (α := Nt) (f := encN) (s := 7) (len := len) (a := a) (p := fun _ => True) (by omega) encN_len (fun i hi => by
      obtain ⟨cs, h1, h2⟩ := hx i (by omega)
      obtain ⟨_, hcl7, hcc⟩ := World.cells?_some h1
      obtain ⟨c0, c1, c2, c3, c4, c5, c6, rfl⟩ : ∃ c0 c1 c2 c3 c4 c5 c6, cs = [c0, c1, c2, c3, c4, c5, c6] := by
        match cs, hcl7 with
        | [c0, c1, c2, c3, c4, c5, c6], _ => exact ⟨c0, c1, c2, c3, c4, c5, c6, rfl⟩
      obtain ⟨y, hy⟩ := note_of h2
      refine ⟨y, fun j u hu => ?_, trivial⟩
      rw [← hy] at hu
      have hj : j < 7 := (List.getElem?_eq_some_iff.1 hu).1
      have := hcc j (by simpa using hj)
      rw [add_of_add] at this
      rw [this]
      exact hu)
    exact ⟨some a, len, cap, l, rfl, hr, by omega⟩
theorem open_TiersR (hf : DataW.trod enc Tryz.prog w 0 spare held fuel 25 [v] = some x) : ∃ A n c l, v = .slice A n c ∧ TiersR w w.heap.size A n l ∧ n ≤ maxLen := by
  rcases open_slice Tryz.underlying25 hf with ⟨h0, _⟩ | ⟨a, len, cap, m, n, D, Pl, h0, _, hl, hm, hmm, _, hx⟩
  · injection h0 with h0
    subst h0
    exact ⟨none, 0, 0, [], rfl, ⟨RecR.none_, fun _ h => by cases h⟩, Nat.zero_le _⟩
  · injection h0 with h0
    subst h0
    have hlm : len ≤ m := by rw [hmm]; split <;> omega
    have hce : Tryz.prog.cellsOf 68 = 4 := by kernel_rfl
    rw [hce] at hx
    obtain ⟨l, hr, hp⟩ := recR_of (w := w) (α := Ti) (f := encT) (s := 4) (len := len) (a := a) (p := fun t => t.name.size ≤ 9223372036854775807) (by omega) encT_len (fun i hi => by
      obtain ⟨cs, h1, h2⟩ := hx i (by omega)
      obtain ⟨_, hcl4, hcc⟩ := World.cells?_some h1
      obtain ⟨c0, c1, c2, c3, rfl⟩ : ∃ c0 c1 c2 c3, cs = [c0, c1, c2, c3] := by
        match cs, hcl4 with
        | [c0, c1, c2, c3], _ => exact ⟨c0, c1, c2, c3, rfl⟩
      obtain ⟨y, hy, hyn⟩ := tier_of h2
      refine ⟨y, fun j u hu => ?_, hyn⟩
      rw [← hy] at hu
      have hj : j < 4 := (List.getElem?_eq_some_iff.1 hu).1
      have := hcc j (by simpa using hj)
      rw [add_of_add] at this
      rw [this]
      exact hu)
    exact ⟨some a, len, cap, l, rfl, ⟨hr, hp⟩, by omega⟩
/-- The cells of a document. -/
theorem doc_of {c0 c1 c2 c3 c4 c5 c6 : Value} (h : DataW.trod enc Tryz.prog w 0 spare held fuel 28 [c0, c1, c2, c3, c4, c5, c6] = some x) :
    ∃ (d : Dv) (T : List Ti) (l : List Nt), [c0, c1, c2, c3, c4, c5, c6] = [.int .i64 d.rid, .string d.name, .int .i64 d.len, .int .i64 d.day, .slice d.sa d.sn d.sc, .slice d.ta d.tn d.tc, .slice d.na d.nn d.nc] ∧ TiersR w w.heap.size d.ta d.tn T ∧ NotesR w w.heap.size d.na d.nn l ∧ d.nn ≤ 9223372036854775807 := by
  have hcp : Tryz.prog.cellsOf 24 = 5 := by kernel_rfl
  have hci : Tryz.prog.cellsOf 3 = 1 := by kernel_rfl
  have hcs : Tryz.prog.cellsOf 9 = 1 := by kernel_rfl
  have hc1 : Tryz.prog.cellsOf 22 = 1 := by kernel_rfl
  have hc2 : Tryz.prog.cellsOf 25 = 1 := by kernel_rfl
  have hc3 : Tryz.prog.cellsOf 26 = 1 := by kernel_rfl
  obtain ⟨n, hs⟩ := trod_fields Tryz.underlying28 h
  obtain ⟨_, t0⟩ : ∃ y, DataW.trod enc Tryz.prog w 0 spare held n 24 (([c0, c1, c2, c3, c4, c5, c6].drop 0).take (Tryz.prog.cellsOf 24)) = some y := hs 0 _ rfl
  obtain ⟨_, t1⟩ : ∃ y, DataW.trod enc Tryz.prog w 0 spare held n 25 (([c0, c1, c2, c3, c4, c5, c6].drop 5).take (Tryz.prog.cellsOf 25)) = some y := hs 1 _ rfl
  obtain ⟨_, t2⟩ : ∃ y, DataW.trod enc Tryz.prog w 0 spare held n 26 (([c0, c1, c2, c3, c4, c5, c6].drop 6).take (Tryz.prog.cellsOf 26)) = some y := hs 2 _ rfl
  simp only [hcp, hc2, hc3, List.drop, List.take] at t0 t1 t2
  obtain ⟨n2, hr⟩ := trod_fields Tryz.underlying24 t0
  obtain ⟨_, r0⟩ : ∃ y, DataW.trod enc Tryz.prog w 0 spare held n2 3 (([c0, c1, c2, c3, c4].drop 0).take (Tryz.prog.cellsOf 3)) = some y := hr 0 _ rfl
  obtain ⟨_, r1⟩ : ∃ y, DataW.trod enc Tryz.prog w 0 spare held n2 9 (([c0, c1, c2, c3, c4].drop 1).take (Tryz.prog.cellsOf 9)) = some y := hr 1 _ rfl
  obtain ⟨_, r2⟩ : ∃ y, DataW.trod enc Tryz.prog w 0 spare held n2 3 (([c0, c1, c2, c3, c4].drop 2).take (Tryz.prog.cellsOf 3)) = some y := hr 2 _ rfl
  obtain ⟨_, r3⟩ : ∃ y, DataW.trod enc Tryz.prog w 0 spare held n2 3 (([c0, c1, c2, c3, c4].drop 3).take (Tryz.prog.cellsOf 3)) = some y := hr 3 _ rfl
  obtain ⟨_, r4⟩ : ∃ y, DataW.trod enc Tryz.prog w 0 spare held n2 22 (([c0, c1, c2, c3, c4].drop 4).take (Tryz.prog.cellsOf 22)) = some y := hr 4 _ rfl
  simp only [hci, hcs, hc1, List.drop, List.take] at r0 r1 r2 r3 r4
  obtain ⟨s0, rfl⟩ := int_of r0
  obtain ⟨s1, rfl, _⟩ := str_of r1
  obtain ⟨s2, rfl⟩ := int_of r2
  obtain ⟨s3, rfl⟩ := int_of r3
  obtain ⟨sa, sn, sc, _, rfl, _, _⟩ := open_ints r4
  obtain ⟨ta, tn, tc, T, rfl, hT, _⟩ := open_TiersR t1
  obtain ⟨na, nn, nc, l, rfl, hl, hn⟩ := open_NotesR t2
  exact ⟨⟨s0, s1, s2, s3, sa, sn, sc, ta, tn, tc, na, nn, nc⟩, T, l, rfl, hT, hl, by unfold maxLen at hn; exact hn⟩
set_option maxRecDepth 100000 in
theorem open_doc {r : Reach} {b0 : Nat} {d : DataW H} {p : List MemPlace} (hv : Value.okWide Tryz.prog w r b0 28 v) (h : DataW.Trod enc Tryz.prog w 0 spare held 28 v d p) :
    ∃ (d : Dv) (T : List Ti) (l : List Nt), v = docV d ∧ TiersR w w.heap.size d.ta d.tn T ∧ NotesR w w.heap.size d.na d.nn l ∧ d.nn ≤ 9223372036854775807 := by
  obtain ⟨cs, rfl, hsz⟩ := okWide_struct Tryz.underlying28 hv
  have hce : Tryz.prog.cellsOf 28 = 7 := by kernel_rfl
  obtain ⟨c0, c1, c2, c3, c4, c5, c6, rfl⟩ := array7 (hsz.trans hce)
  obtain ⟨fuel, hf⟩ := h
  obtain ⟨d, T, l, e, hT, hl, hn⟩ := doc_of (c0 := c0) (c1 := c1) (c2 := c2) (c3 := c3) (c4 := c4) (c5 := c5) (c6 := c6) hf
  refine ⟨d, T, l, ?_, hT, hl, hn⟩
  unfold docV
  have e2 := congrArg (fun l : List Value => Value.agg l.toArray) e
  exact e2
end
end Go.Proofs.YtdpllfgnppeneaaGreatDoor
