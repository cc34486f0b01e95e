import Derived.Test.YthcabnfcgjnlnaaGreatDoorB13
import Derived.Test.YthcabnfcgjnlnaaGreatDoorLi08
import Derived.Test.YthcabnfcgjnlnaaGreatDoorRows
import Derived.Deep.Slices
import Derived.ChangeSame
import Derived.ChangeArms
import Derived.Lib.SmallJoins
set_option linter.unusedVariables false
set_option linter.unusedSimpArgs false
namespace Go.Proofs.YthcabnfcgjnlnaaGreatDoor
section
open Go.RowKit Go.ChangeShapes Go.WideShapes Go.ChangeAt Go.Deep Go.Joins
theorem list_of {α : Type} [Inhabited α] {n : Nat} {p : Nat -> α -> Prop} (h : ∀ i, i < n -> ∃ x, p i x) : ∃ L : List α, L.length = n /\ ∀ i x, L[i]? = some x -> p i x := by
 obtain ⟨f, hf⟩ := choose_lt h;refine ⟨(List.range n).map f, by simp, fun i x hx => ?_⟩;have hi := (List.getElem?_eq_some_iff.1 hx).1;simp at hi
 have e : some (f i) = some x := by rw [<- hx]; simp [hi]
 injection e with e
 rw [<- e];exact hf i hi
theorem cellsInt : Tryz.prog.cellsOf 3 = 1 := by kernel_rfl
section
variable {H : Type} {enc : TypeId × Value → H} {w : World} {spare : Nat → Bool} {held : Bool} {fuel : Nat} {v : Value} {x : DataW H × List MemPlace}
theorem open_ints (hf : DataW.trod enc Tryz.prog w 0 spare held fuel 32 [v] = some x) : ∃ A n c, ∃ l : List Int, v = .slice A n c /\ Reads w w.heap.size 1 A n (l.map (.int .i64)) /\ n <= maxLen := by
 rcases open_slice1 Tryz.underlying32 cellsInt hf with ⟨h0, _⟩ | ⟨a, len, cap, m, n, V, D, Pl, h0, _, hl, hm, hmm, _, hx⟩
 ·injection h0 with h0
  subst h0;exact ⟨none, 0, 0, [], rfl, Reads.none_, Nat.zero_le _⟩
 ·injection h0 with h0
  subst h0;have hlm : len <= m := by rw [hmm]; split <;> omega
  obtain ⟨l, hlen, hL⟩ := list_of (α := Int) (n := len) (p := fun i s => w.cell? (a.add i) = some (.int .i64 s)) (fun i hi => by
   obtain ⟨h1, h2⟩ := hx i (by omega);obtain ⟨s, hs, _, _⟩ := DataW.trod_int Tryz.underlying3 h2;injection hs with hs
   exact ⟨s, by rw [h1, hs]⟩)
  refine ⟨some a, len, cap, l, rfl, ⟨by simpa using hlen, fun hn => ⟨a, rfl, ?_, fun j u hu => ?_⟩⟩, by omega⟩
  ·have := World.block_lt_of_cell? w _ (hx 0 (by omega)).1;rw [block_of_add] at this;exact this
  ·rw [List.getElem?_map] at hu
   cases hz : l[j]? with
   | none => rw [hz] at hu; cases hu
   | some s => rw [hz] at hu; cases hu; exact hL j s hz
end
end
section
open Go.RowKit
def vari (L : List (List ByteArray)) (i k : Nat) : ByteArray := (L.getD i []).getD k ⟨#[]⟩
def smallB (S : List (ByteArray × Int)) (nm : ByteArray) (U : List (ByteArray × List Int)) (L : List (List ByteArray)) : Bool :=
 (decide (S.length <= 60) && (decide (U.length <= 110) && (decide (L.length <= 110) && decide (nm.size <= 100)))) && (Ok.allTo (fun i => decide ((segName S i).size <= 100)) S.length &&
  (Ok.allTo (fun i => decide ((graph U i).size <= 100) && decide ((usegs U i).length <= 10)) U.length && Ok.allTo (fun i => decide ((L.getD i []).length <= 20) && Ok.allTo (fun k => decide ((vari L i k).size <= 100)) (L.getD i []).length) L.length))
end
section
open Go.RowKit Go.ChangeShapes Go.WideShapes Go.ChangeAt Go.Deep Go.Joins Ru Lay
section
variable {H : Type} {enc : TypeId × Value → H} {w : World} {spare : Nat → Bool} {held : Bool} {fuel : Nat} {v : Value} {x : DataW H × List MemPlace}
theorem trod_fields {t : TypeId} {fs : Array Field} {cs : List Value} (ht : Tryz.prog.underlying t = some (.struct fs)) (h : DataW.trod enc Tryz.prog w 0 spare held fuel t cs = some x) :
  ∃ n, ∀ (i : Nat) (f : Field), fs[i]? = some f -> ∃ y, DataW.trod enc Tryz.prog w 0 spare held n f.type ((cs.drop f.offset).take (Tryz.prog.cellsOf f.type)) = some y := by
 obtain ⟨xs, n, _, _, _, hlen, hs⟩ := DataW.trod_struct ht h;refine ⟨n, fun i f hf => ?_⟩;have hi : i < xs.length := by rw [hlen]; exact (Array.getElem?_eq_some_iff.1 hf).1
 exact ⟨xs[i], by rw [hs i f hf]; exact List.getElem?_eq_getElem hi⟩
theorem int_of {c : Value} (h : DataW.trod enc Tryz.prog w 0 spare held fuel 3 [c] = some x) : ∃ s, c = .int .i64 s := by
 obtain ⟨s, e, _, _⟩ := DataW.trod_int Tryz.underlying3 h;injection e with e
 exact ⟨s, e⟩
theorem str_of {c : Value} (h : DataW.trod enc Tryz.prog w 0 spare held fuel 9 [c] = some x) : ∃ s, c = .string s /\ s.size <= maxLen := by
 obtain ⟨s, e, _, hs⟩ := DataW.trod_string Tryz.underlying9 h;injection e with e
 exact ⟨s, e, hs⟩
theorem note_of {c0 c1 c2 c3 c4 c5 c6 : Value} (h : DataW.trod enc Tryz.prog w 0 spare held fuel 58 [c0, c1, c2, c3, c4, c5, c6] = some x) : ∃ n : Nt, [c0, c1, c2, c3, c4, c5, c6] = encN n := by
 have hcp : Tryz.prog.cellsOf 56 = 2 := by kernel_rfl
 have hci : Tryz.prog.cellsOf 3 = 1 := by kernel_rfl
 have hcs : Tryz.prog.cellsOf 9 = 1 := by kernel_rfl
 obtain ⟨n, hs⟩ := trod_fields Tryz.underlying58 h;obtain ⟨_, t0⟩ : ∃ y, DataW.trod enc Tryz.prog w 0 spare held n 3 (([c0, c1, c2, c3, c4, c5, c6].drop 0).take (Tryz.prog.cellsOf 3)) = some y := hs 0 _ rfl;obtain ⟨_, t1⟩ : ∃ y, DataW.trod enc Tryz.prog w 0 spare held n 3 (([c0, c1, c2, c3, c4, c5, c6].drop 1).take (Tryz.prog.cellsOf 3)) = some y := hs 1 _ rfl;obtain ⟨_, t2⟩ : ∃ y, DataW.trod enc Tryz.prog w 0 spare held n 3 (([c0, c1, c2, c3, c4, c5, c6].drop 2).take (Tryz.prog.cellsOf 3)) = some y := hs 2 _ rfl;obtain ⟨_, t3⟩ : ∃ y, DataW.trod enc Tryz.prog w 0 spare held n 56 (([c0, c1, c2, c3, c4, c5, c6].drop 3).take (Tryz.prog.cellsOf 56)) = some y := hs 3 _ rfl;obtain ⟨_, t4⟩ : ∃ y, DataW.trod enc Tryz.prog w 0 spare held n 3 (([c0, c1, c2, c3, c4, c5, c6].drop 5).take (Tryz.prog.cellsOf 3)) = some y := hs 4 _ rfl;obtain ⟨_, t5⟩ : ∃ y, DataW.trod enc Tryz.prog w 0 spare held n 9 (([c0, c1, c2, c3, c4, c5, c6].drop 6).take (Tryz.prog.cellsOf 9)) = some y := hs 5 _ rfl;simp only [hcp, hci, hcs, List.drop, List.take] at t0 t1 t2 t3 t4 t5;obtain ⟨n2, hr⟩ := trod_fields Tryz.underlying56 t3;obtain ⟨_, r0⟩ : ∃ y, DataW.trod enc Tryz.prog w 0 spare held n2 3 (([c3, c4].drop 0).take (Tryz.prog.cellsOf 3)) = some y := hr 0 _ rfl;obtain ⟨_, r1⟩ : ∃ y, DataW.trod enc Tryz.prog w 0 spare held n2 3 (([c3, c4].drop 1).take (Tryz.prog.cellsOf 3)) = some y := hr 1 _ rfl;simp only [hci, List.drop, List.take] at r0 r1;obtain ⟨s0, rfl⟩ := int_of t0;obtain ⟨s1, rfl⟩ := int_of t1;obtain ⟨s2, rfl⟩ := int_of t2;obtain ⟨s3, rfl⟩ := int_of r0;obtain ⟨s4, rfl⟩ := int_of r1;obtain ⟨s5, rfl⟩ := int_of t4;obtain ⟨s6, rfl, _⟩ := str_of t5;exact ⟨⟨s0, s1, s2, s3, s4, s5, s6⟩, rfl⟩
theorem tier_of {c0 c1 c2 c3 : Value} (h : DataW.trod enc Tryz.prog w 0 spare held fuel 86 [c0, c1, c2, c3] = some x) : ∃ n : Ti, [c0, c1, c2, c3] = encT n /\ n.name.size <= 9223372036854775807 := by
 have hci : Tryz.prog.cellsOf 3 = 1 := by kernel_rfl
 have hcs : Tryz.prog.cellsOf 9 = 1 := by kernel_rfl
 obtain ⟨n, hs⟩ := trod_fields Tryz.underlying86 h;obtain ⟨_, t0⟩ : ∃ y, DataW.trod enc Tryz.prog w 0 spare held n 9 (([c0, c1, c2, c3].drop 0).take (Tryz.prog.cellsOf 9)) = some y := hs 0 _ rfl;obtain ⟨_, t1⟩ : ∃ y, DataW.trod enc Tryz.prog w 0 spare held n 3 (([c0, c1, c2, c3].drop 1).take (Tryz.prog.cellsOf 3)) = some y := hs 1 _ rfl;obtain ⟨_, t2⟩ : ∃ y, DataW.trod enc Tryz.prog w 0 spare held n 3 (([c0, c1, c2, c3].drop 2).take (Tryz.prog.cellsOf 3)) = some y := hs 2 _ rfl;obtain ⟨_, t3⟩ : ∃ y, DataW.trod enc Tryz.prog w 0 spare held n 3 (([c0, c1, c2, c3].drop 3).take (Tryz.prog.cellsOf 3)) = some y := hs 3 _ rfl;simp only [hci, hcs, List.drop, List.take] at t0 t1 t2 t3;obtain ⟨s0, rfl, h0⟩ := str_of t0;obtain ⟨s1, rfl⟩ := int_of t1;obtain ⟨s2, rfl⟩ := int_of t2;obtain ⟨s3, rfl⟩ := int_of t3;exact ⟨⟨s0, s1, s2, s3⟩, rfl, by unfold maxLen at h0; exact h0⟩
theorem recR_of {α : Type} [Inhabited α] {f : α -> List Value} {s len : Nat} {a : Addr} {p : α -> Prop} (hs : 0 < s) (hf : ∀ x, (f x).length = s) (h : ∀ i, i < len -> ∃ x : α, (∀ j u, (f x)[j]? = some u -> w.cell? (a.add (i * s + j)) = some u) /\ p x) :
  ∃ l, RecR f s w w.heap.size (some a) len l /\ ∀ x ∈ l, p x := by
 obtain ⟨U, hlen, hU⟩ := list_of (α := α) (n := len) (p := fun i x => (∀ j u, (f x)[j]? = some u -> w.cell? (a.add (i * s + j)) = some u) /\ p x) h;refine ⟨U, ⟨⟨by rw [flat_len hf, hlen], fun hn => ⟨a, rfl, ?_, fun j u hu => ?_⟩⟩, hlen⟩, fun x hx => ?_⟩
 ·have hl0 : 0 < (f U[0]).length := by rw [hf]; exact hs
  have h0 := (hU 0 U[0] (List.getElem?_eq_getElem (by omega))).1 0 _ (List.getElem?_eq_getElem hl0);have := World.block_lt_of_cell? w _ h0;rw [block_of_add] at this;exact this
 ·have hjl : j < len * s := by have := (List.getElem?_eq_some_iff.1 hu).1; rw [flat_len hf, hlen] at this; exact this
  have hk : j / s < U.length := by rw [hlen]; exact Nat.div_lt_of_lt_mul (by rw [Nat.mul_comm]; exact hjl)
  have hp := List.getElem?_eq_getElem hk;have e : j / s * s + j % s = j := by rw [Nat.mul_comm]; exact Nat.div_add_mod j s
  have h1 := flat_at (f := f) hf hp (Nat.mod_lt j hs);rw [e, hu] at h1;have := (hU (j / s) _ hp).1 (j % s) u h1.symm;rw [e] at this;exact this
 ·obtain ⟨i, hi⟩ := List.getElem?_of_mem hx;exact (hU i x hi).2
theorem open_NotesR (hf : DataW.trod enc Tryz.prog w 0 spare held fuel 36 [v] = some x) : ∃ A n c l, v = .slice A n c /\ NotesR w w.heap.size A n l /\ n <= maxLen := by
 rcases open_slice Tryz.underlying36 hf with ⟨h0, _⟩ | ⟨a, len, cap, m, n, D, Pl, h0, _, hl, hm, hmm, _, hx⟩
 ·injection h0 with h0
  subst h0;exact ⟨none, 0, 0, [], rfl, RecR.none_, Nat.zero_le _⟩
 ·injection h0 with h0
  subst h0;have hlm : len <= m := by rw [hmm]; split <;> omega
  have hce : Tryz.prog.cellsOf 58 = 7 := by kernel_rfl
  rw [hce] at hx
  obtain ⟨l, hr, _⟩ := recR_of (w := w) (α := Nt) (f := encN) (s := 7) (len := len) (a := a) (p := fun _ => True) (by omega) encN_len (fun i hi => by
   obtain ⟨cs, h1, h2⟩ := hx i (by omega);obtain ⟨_, hcl7, hcc⟩ := World.cells?_some h1
   obtain ⟨c0, c1, c2, c3, c4, c5, c6, rfl⟩ : ∃ c0 c1 c2 c3 c4 c5 c6, cs = [c0, c1, c2, c3, c4, c5, c6] := by
    match cs, hcl7 with
    | [c0, c1, c2, c3, c4, c5, c6], _ => exact ⟨c0, c1, c2, c3, c4, c5, c6, rfl⟩
   obtain ⟨y, hy⟩ := note_of h2;refine ⟨y, fun j u hu => ?_, trivial⟩;rw [<- hy] at hu;have hj : j < 7 := (List.getElem?_eq_some_iff.1 hu).1;have := hcc j (by simpa using hj);rw [add_of_add] at this;rw [this];exact hu)
  exact ⟨some a, len, cap, l, rfl, hr, by omega⟩
theorem open_TiersR (hf : DataW.trod enc Tryz.prog w 0 spare held fuel 35 [v] = some x) : ∃ A n c l, v = .slice A n c /\ TiersR w w.heap.size A n l /\ n <= maxLen := by
 rcases open_slice Tryz.underlying35 hf with ⟨h0, _⟩ | ⟨a, len, cap, m, n, D, Pl, h0, _, hl, hm, hmm, _, hx⟩
 ·injection h0 with h0
  subst h0;exact ⟨none, 0, 0, [], rfl, ⟨RecR.none_, fun _ h => by cases h⟩, Nat.zero_le _⟩
 ·injection h0 with h0
  subst h0;have hlm : len <= m := by rw [hmm]; split <;> omega
  have hce : Tryz.prog.cellsOf 86 = 4 := by kernel_rfl
  rw [hce] at hx
  obtain ⟨l, hr, hp⟩ := recR_of (w := w) (α := Ti) (f := encT) (s := 4) (len := len) (a := a) (p := fun t => t.name.size <= 9223372036854775807) (by omega) encT_len (fun i hi => by
   obtain ⟨cs, h1, h2⟩ := hx i (by omega);obtain ⟨_, hcl4, hcc⟩ := World.cells?_some h1
   obtain ⟨c0, c1, c2, c3, rfl⟩ : ∃ c0 c1 c2 c3, cs = [c0, c1, c2, c3] := by
    match cs, hcl4 with
    | [c0, c1, c2, c3], _ => exact ⟨c0, c1, c2, c3, rfl⟩
   obtain ⟨y, hy, hyn⟩ := tier_of h2;refine ⟨y, fun j u hu => ?_, hyn⟩;rw [<- hy] at hu;have hj : j < 4 := (List.getElem?_eq_some_iff.1 hu).1;have := hcc j (by simpa using hj);rw [add_of_add] at this;rw [this];exact hu)
  exact ⟨some a, len, cap, l, rfl, ⟨hr, hp⟩, by omega⟩
theorem doc_of {c0 c1 c2 c3 c4 c5 c6 : Value} (h : DataW.trod enc Tryz.prog w 0 spare held fuel 38 [c0, c1, c2, c3, c4, c5, c6] = some x) :
  ∃ (d : Dv) (T : List Ti) (l : List Nt), [c0, c1, c2, c3, c4, c5, c6] = [.int .i64 d.rid, .string d.name, .int .i64 d.len, .int .i64 d.day, .slice d.sa d.sn d.sc, .slice d.ta d.tn d.tc, .slice d.na d.nn d.nc] /\ TiersR w w.heap.size d.ta d.tn T /\ NotesR w w.heap.size d.na d.nn l /\ d.nn <= 9223372036854775807 := by
 have hcp : Tryz.prog.cellsOf 34 = 5 := by kernel_rfl
 have hci : Tryz.prog.cellsOf 3 = 1 := by kernel_rfl
 have hcs : Tryz.prog.cellsOf 9 = 1 := by kernel_rfl
 have hc1 : Tryz.prog.cellsOf 32 = 1 := by kernel_rfl
 have hc2 : Tryz.prog.cellsOf 35 = 1 := by kernel_rfl
 have hc3 : Tryz.prog.cellsOf 36 = 1 := by kernel_rfl
 obtain ⟨n, hs⟩ := trod_fields Tryz.underlying38 h;obtain ⟨_, t0⟩ : ∃ y, DataW.trod enc Tryz.prog w 0 spare held n 34 (([c0, c1, c2, c3, c4, c5, c6].drop 0).take (Tryz.prog.cellsOf 34)) = some y := hs 0 _ rfl;obtain ⟨_, t1⟩ : ∃ y, DataW.trod enc Tryz.prog w 0 spare held n 35 (([c0, c1, c2, c3, c4, c5, c6].drop 5).take (Tryz.prog.cellsOf 35)) = some y := hs 1 _ rfl;obtain ⟨_, t2⟩ : ∃ y, DataW.trod enc Tryz.prog w 0 spare held n 36 (([c0, c1, c2, c3, c4, c5, c6].drop 6).take (Tryz.prog.cellsOf 36)) = some y := hs 2 _ rfl;simp only [hcp, hc2, hc3, List.drop, List.take] at t0 t1 t2;obtain ⟨n2, hr⟩ := trod_fields Tryz.underlying34 t0;obtain ⟨_, r0⟩ : ∃ y, DataW.trod enc Tryz.prog w 0 spare held n2 3 (([c0, c1, c2, c3, c4].drop 0).take (Tryz.prog.cellsOf 3)) = some y := hr 0 _ rfl;obtain ⟨_, r1⟩ : ∃ y, DataW.trod enc Tryz.prog w 0 spare held n2 9 (([c0, c1, c2, c3, c4].drop 1).take (Tryz.prog.cellsOf 9)) = some y := hr 1 _ rfl;obtain ⟨_, r2⟩ : ∃ y, DataW.trod enc Tryz.prog w 0 spare held n2 3 (([c0, c1, c2, c3, c4].drop 2).take (Tryz.prog.cellsOf 3)) = some y := hr 2 _ rfl;obtain ⟨_, r3⟩ : ∃ y, DataW.trod enc Tryz.prog w 0 spare held n2 3 (([c0, c1, c2, c3, c4].drop 3).take (Tryz.prog.cellsOf 3)) = some y := hr 3 _ rfl;obtain ⟨_, r4⟩ : ∃ y, DataW.trod enc Tryz.prog w 0 spare held n2 32 (([c0, c1, c2, c3, c4].drop 4).take (Tryz.prog.cellsOf 32)) = some y := hr 4 _ rfl;simp only [hci, hcs, hc1, List.drop, List.take] at r0 r1 r2 r3 r4;obtain ⟨s0, rfl⟩ := int_of r0;obtain ⟨s1, rfl, _⟩ := str_of r1;obtain ⟨s2, rfl⟩ := int_of r2;obtain ⟨s3, rfl⟩ := int_of r3;obtain ⟨sa, sn, sc, _, rfl, _, _⟩ := open_ints r4;obtain ⟨ta, tn, tc, T, rfl, hT, _⟩ := open_TiersR t1;obtain ⟨na, nn, nc, l, rfl, hl, hn⟩ := open_NotesR t2;exact ⟨⟨s0, s1, s2, s3, sa, sn, sc, ta, tn, tc, na, nn, nc⟩, T, l, rfl, hT, hl, by unfold maxLen at hn; exact hn⟩
end
end
section
open Go.RowKit Ru Lay
attribute [local go_sem ↓] Go.wp_at_zero Go.wp_at_succ
theorem eq_refB (a b c d : Int) (w : World) : (Op.equalIn 10000 24 (.agg #[.int .i64 a, .int .i64 b]) (.agg #[.int .i64 c, .int .i64 d])).run Tryz.prog w = .ok (decide ((a, b) = (c, d))) w := by
 have h1 : ∀ (W : World) (x y : Int), (Op.equalIn 9999 3 (.int .i64 x) (.int .i64 y)).run Tryz.prog W = .ok (x == y) W := fun W x y => run_equalIn_int W 9998 _ _ .i64 x y Tryz.underlying3
 rw [run_equalIn_struct w 9999 _ _ _ (by simp only [Program.fieldsOf, Tryz.underlying24]) (by kernel_rfl)];by_cases e1 : a = c
 ·by_cases e2 : b = d
  ·subst e1 e2;simp [Program.fieldsOf, Tryz.underlying24, Op.eqFields, part, h1, Tryz.isAgg3, Tryz.sizeOf3]
  ·subst e1;simp [Program.fieldsOf, Tryz.underlying24, Op.eqFields, part, h1, Tryz.isAgg3, Tryz.sizeOf3, e2]
 ·simp [Program.fieldsOf, Tryz.underlying24, Op.eqFields, part, h1, Tryz.isAgg3, Tryz.sizeOf3, e1]
theorem idxR_at {l : List Rf} {r : Rf} {i : Nat} (h : l[i]? = some r) (hno : r ∉ l.take i) : idxR l r = (i : Int) := by
 unfold idxR;rw [if_pos (List.mem_of_getElem? h)];have hil := (List.getElem?_eq_some_iff.1 h).1
 have h1 : l = l.take i ++ r :: l.drop (i + 1) := by
  conv => lhs; rw [<- List.take_append_drop i l]
  rw [List.drop_eq_getElem_cons hil, (List.getElem?_eq_some_iff.1 h).2]
 rw [h1, List.idxOf_append, if_neg hno, List.idxOf_cons_self, List.length_take];omega
theorem idxR_no {l : List Rf} {r : Rf} (h : r ∉ l) : idxR l r = -1 := by unfold idxR; rw [if_neg h]
theorem not_take_next {l : List Rf} {r x : Rf} {i : Nat} (h : l[i]? = some x) (hne : x ≠ r) (hno : r ∉ l.take i) : r ∉ l.take (i + 1) := by
 rw [List.take_add_one, h];intro hm;rcases List.mem_append.1 hm with hm | hm
 ·exact hno hm
 ·simp at hm; exact hne hm.symm
set_option maxHeartbeats 2000000 in
theorem index_any (A : Option Addr) (n c : Nat) (l : List Rf) (r1 r2 : Int) (w : World) (hl : RefsR w w.heap.size A n l) (hn : n <= 9223372036854775807) :
  Calls Tryz.prog 34 #[.slice A n c, .agg #[.int .i64 r1, .int .i64 r2]] w fun e w' => e = .returned (.int .i64 (idxR l (r1, r2))) /\ Below w.heap.size w w' := by
 obtain ⟨W0, hW0⟩ : ∃ W0, w.alloc (.cells #[.int .i64 r1, .int .i64 r2] 24) = W0 := ⟨_, rfl⟩;have HB0 : Hid (Below w.heap.size w W0) := by rw [<- hW0]; exact (Below.refl _ w).alloc (Nat.le_refl _) _
 have HK0 : Hid (W0.cell? ⟨w.heap.size, 0, none⟩ = some (.int .i64 r1)) := by rw [<- hW0, World.cell?_alloc_new]; rfl
 have HK1 : Hid (W0.cell? ⟨w.heap.size, 1, none⟩ = some (.int .i64 r2)) := by rw [<- hW0, World.cell?_alloc_new]; rfl
 have hz0 : W0.heap.size = w.heap.size + 1 := by rw [<- hW0]; simp
 have HL := hI hl;have HLN := hI hl.len;have hg := Tryz.eqGuardType24;clear hl;go_enter Tryz.func34, Tryz.ntmps34
 go_wp2_with fail
 (try rw [hW0])
 clear hW0;go_loopw [5, 8] (fun v5 v8 wr => ∃ i : Nat, i <= n /\ v8 = .int .i64 i /\ Hid ((r1, r2) ∉ l.take i) /\ Hid (Below W0.heap.size W0 wr)) (fun _ v8 _ => n - (intOf v8).toNat)
 case atStart => exact ⟨0, Nat.zero_le _, rfl, hI (by simp), Below.refl _ _⟩
 case round =>
  obtain ⟨i, hi, rfl, HNO, HB⟩ := hrel;obtain ⟨w0, hw0⟩ : ∃ w0, wr = w0 := ⟨_, rfl⟩;rw [hw0] at HB |-;clear hw0;have HBW : Hid (Below w.heap.size w w0) := HB0.out.trans (HB.out.mono (by omega));by_cases hlt : i < n
  ·have hiz : (i : Int) < (n : Int) := by omega
   have hiA : (0 : Int) <= (i : Int) := by omega
   obtain ⟨ad, x, rfl, hab, hx, hcells⟩ := HL.out.at_ hlt;obtain ⟨q0, q1⟩ := hcells w0 HBW.out;have HX := hI hx;have HLT := hI hlt;have k0 : w0.cell? ⟨w.heap.size, 0, none⟩ = some (.int .i64 r1) := (HB.out.cell (by show w.heap.size < _; omega)).trans HK0.out;have k1 : w0.cell? ⟨w.heap.size, 1, none⟩ = some (.int .i64 r2) := (HB.out.cell (by show w.heap.size < _; omega)).trans HK1.out;obtain ⟨x1, x2⟩ := x;simp only at q0 q1;clear hx hcells;by_cases he : (x1, x2) = (r1, r2)
   ·have HE := hI he;have hq : ∀ W : World, (Op.equalIn 10000 24 (.agg #[.int .i64 x1, .int .i64 x2]) (.agg #[.int .i64 r1, .int .i64 r2])).run Tryz.prog W = .ok true W := fun W => by rw [eq_refB, decide_eq_true he]
    clear he;go_wp2_with fail
    go_quiet (fail)
    have HB2 : Hid (Below w.heap.size w (w0.drewN nq)) := below_drewN HBW.out nq;go_wp2;go_ret;exact ⟨by rw [idxR_at (i := i) (by rw [HX.out, HE.out]) HNO.out]; rfl, HB2.out⟩
   ·have HE := hI he;have hq : ∀ W : World, (Op.equalIn 10000 24 (.agg #[.int .i64 x1, .int .i64 x2]) (.agg #[.int .i64 r1, .int .i64 r2])).run Tryz.prog W = .ok false W := fun W => by rw [eq_refB, decide_eq_false he]
    clear he;go_wp2_with fail
    go_quiet (fail)
    have HB2 : Hid (Below W0.heap.size W0 (w0.drewN nq)) := below_drewN HB.out nq;go_wp2;go_roundw
    case rel => exact ⟨i + 1, HLT.out, by go_num, not_take_next HX.out HE.out HNO.out, HB2⟩
    case measure => have := HLT.out; simp [intOf]; omega
  ·obtain rfl : n = i := by omega
   have hiz : ¬ (n : Int) < (n : Int) := by omega
   have HNO' : Hid ((r1, r2) ∉ l) := by
    have h := HNO.out;rw [List.take_of_length_le (by rw [HLN.out]; exact Nat.le_refl _)] at h;exact h
   go_wp2;go_ret;exact ⟨by rw [idxR_no HNO'.out]; rfl, HBW.out⟩
theorem idxR_neg {l : List Rf} {r : Rf} : idxR l r < 0 ↔ r ∉ l := by
 unfold idxR;by_cases h : r ∈ l
 ·rw [if_pos h]; exact ⟨fun e => by omega, fun e => absurd h e⟩
 ·rw [if_neg h]; exact ⟨fun _ => h, fun _ => by omega⟩
set_option maxHeartbeats 4000000 in
set_option maxRecDepth 100000 in
theorem refNumbers_any (A : Option Addr) (n c : Nat) (L : List Pt) (w : World) (hP : PtsR w w.heap.size A n L) (hn : n <= 1000000) (hz : (allR L).length <= 1000000) :
  Calls Tryz.prog 14 #[.slice A n c] w fun e w' => ∃ v, e = .returned v /\ RfO w' w.heap.size v (numsF [] (allR L)) /\ Below w.heap.size w w' := by
 have HP := hI hP;have HL := hI hP.len;have HZ := hI hz;clear hP hz;go_enter Tryz.func14, Tryz.ntmps14
 go_wp2_with fail
 go_loopw [3, 4, 5, 8] (fun v3 v4 v5 v8 wr => ∃ i : Nat, i <= n /\ v8 = .int .i64 i /\ Hid (RfO wr w.heap.size v3 (numsF [] (allR (L.take i)))) /\ Hid (Below w.heap.size w wr)) (fun _ _ _ v8 _ => n - (intOf v8).toNat)
 case atStart => exact ⟨0, Nat.zero_le _, rfl, OwnR.nil, Below.refl _ _⟩
 case round =>
  obtain ⟨i, hi, rfl, HO, HB⟩ := hrel;obtain ⟨w0, hw0⟩ : ∃ w0, wr = w0 := ⟨_, rfl⟩;rw [hw0] at HO HB |-;clear hw0;by_cases hlt : i < n
  ·have hiz : (i : Int) < (n : Int) := by omega
   have hiA : (0 : Int) <= (i : Int) := by omega
   obtain ⟨ad, x, rfl, hab, hx, hpr, hcells⟩ := HP.out.at_ hlt;have HCL := hI fun W hW => (hcells W hW).2.2.2.2
   have q4 := HCL.out w0 HB.out;have HLT := hI hlt;have HNX := hI (allR_next hx);have HPT := hI (allR_part hx);have HRF := hI hpr.refs;have hrn := hpr.size.2.2;obtain ⟨pid, title, text, ea, en, ec, ra, rn, rc, rs⟩ := x;simp only at *;clear hx hpr hcells;obtain ⟨out0, ho0⟩ : ∃ out0, numsF [] (allR (L.take i)) = out0 := ⟨_, rfl⟩
   have HLE : Hid (∀ j, (numsF out0 (rs.take j)).length <= 1000000) := fun j => by
    have h1 := HPT.out j;have h2 := HZ.out;have h3 := numsF_len (allR (L.take i) ++ rs.take j) [];rw [numsF_app, ho0, List.length_append] at h3;simp only [List.length_nil] at h3;omega
   have HNXT : Hid (numsF [] (allR (L.take (i + 1))) = numsF out0 rs) := by
    have h1 := HNX.out;show numsF [] (allR (L.take (i + 1))) = _;rw [h1, numsF_app, ho0]
   rw [ho0] at HO;clear ho0 HPT HNX;go_upto_region 6 with fail
   clear q4;go_loopw [3, 5, 17] (fun v3 v5 v17 wi => ∃ j : Nat, j <= rn /\ v17 = .int .i64 j /\ Hid (RfO wi w.heap.size v3 (numsF out0 (rs.take j))) /\ Hid (Below w.heap.size w wi)) (fun _ _ v17 _ => rn - (intOf v17).toNat)
   case atStart => exact ⟨0, Nat.zero_le _, rfl, HO, HB⟩
   case round =>
    clear HO HB;obtain ⟨j, hj, rfl, HO, HB⟩ := hrel;obtain ⟨w2, hw2⟩ : ∃ w2, wr = w2 := ⟨_, rfl⟩;rw [hw2] at HO HB |-;clear hw2;have HLJ := hI (HLE.out j);by_cases hjt : j < rn
    ·have hjz : (j : Int) < (rn : Int) := by omega
     have hjA : (0 : Int) <= (j : Int) := by omega
     have hjA' : (0 : Int) <= (i : Int) := by omega
     have HJT := hI hjt;obtain ⟨bd, r, rfl, hbb, hr, hrc⟩ := HRF.out.at_ hjt;have HRC := hI hrc;obtain ⟨q0, q1⟩ := hrc w2 HB.out;have q4 := HCL.out w2 HB.out;have HNX := hI (numsF_next (out := out0) hr);obtain ⟨ll, hlq⟩ : ∃ ll, numsF out0 (rs.take j) = ll := ⟨_, rfl⟩;rw [hlq] at HO HNX HLJ;have hsz := HB.out.size;have hlen := HLJ.out;obtain ⟨r1, r2⟩ := r;simp only at q0 q1 HRC;obtain ⟨A3, c3, rfl, h3a, h3b, hrd⟩ := RfO.form HO.out;have HIX := hI (index_any A3 ll.length c3 ll r1 r2 w2 hrd (by omega));clear hlq hr hrc hrd h3a h3b;by_cases hm : (r1, r2) ∈ ll
     ·have d0 : decide (idxR ll (r1, r2) < 0) = false := decide_eq_false fun e => idxR_neg.1 e hm
      have HNY : Hid (numsF out0 (rs.take (j + 1)) = ll) := by
       have h := HNX.out;rw [if_pos hm] at h;exact h
      clear HNX hm;go_wp2_with fail
      refine HIX.out.mono ?_;rintro e w3 ⟨rfl, hb3⟩;have HB3 : Hid (Below w.heap.size w w3) := HB.out.trans (hb3.mono hsz);have HO3 := hI (HO.out.on hb3);clear hb3 q0 q1 q4 HIX HO HB;go_wp2;go_roundw
      case rel => exact ⟨j + 1, HJT.out, by go_num, (by rw [HNY.out]; exact HO3), HB3⟩
      case measure => have := HJT.out; simp [intOf]; omega
     ·have d0 : decide (idxR ll (r1, r2) < 0) = true := decide_eq_true (idxR_neg.2 hm)
      have HNY : Hid (numsF out0 (rs.take (j + 1)) = ll ++ [(r1, r2)]) := by
       have h := HNX.out;rw [if_neg hm] at h;exact h
      clear HNX hm;go_wp2_with fail
      refine HIX.out.mono ?_;rintro e w3 ⟨rfl, hb3⟩;have HB3 : Hid (Below w.heap.size w w3) := HB.out.trans (hb3.mono hsz);have HO3 := hI (HO.out.on hb3);clear hb3 q0 q1 q4 HIX HO HB;obtain ⟨q0, q1⟩ := HRC.out w3 HB3.out;have q4 := HCL.out w3 HB3.out;have hs3 := HB3.out.size;go_wp2_with (at_builtin; refine wpList_appN rfl (.tmp 31) (.tmp 40) 28 rfl w.heap.size 24 2 16 (.agg #[.int .i64 0, .int .i64 0]) info_ref rfl (by omega) Tryz.underlying28 rfl HO3.out rfl rfl (by simp [Value.oneCell']) (by omega) (by omega) (by omega) ?_; rintro v7 w4 hown7 hb7)
      have HO4 : Hid (RfO w4 w.heap.size v7 (ll ++ [(r1, r2)])) := RfO.snoc hown7;have HB4 : Hid (Below w.heap.size w w4) := HB3.out.trans hb7;clear hown7 hb7;go_wp2;go_roundw
      case rel => exact ⟨j + 1, HJT.out, by go_num, (by rw [HNY.out]; exact HO4), HB4⟩
      case measure => have := HJT.out; simp [intOf]; omega
    ·obtain rfl : rn = j := by omega
     have hjz : ¬ (rn : Int) < (rn : Int) := by omega
     have ht : rs.take rn = rs := List.take_of_length_le (by rw [HRF.out.len]; exact Nat.le_refl _);rw [ht, <- HNXT.out] at HO;clear ht;go_wp2;go_roundw
     case rel => exact ⟨i + 1, HLT.out, by go_num, HO, HB⟩
     case measure => have := HLT.out; simp [intOf]; omega
  ·obtain rfl : n = i := by omega
   have hiz : ¬ (n : Int) < (n : Int) := by omega
   have ht : L.take n = L := List.take_of_length_le (by rw [HL.out]; exact Nat.le_refl _);rw [ht] at HO;clear ht;go_wp2;go_ret;exact ⟨_, rfl, HO.out, HB.out⟩
set_option maxHeartbeats 8000000 in
set_option maxRecDepth 100000 in
theorem refKids_any (d : Dv) (T : List Ti) (l : List Nt) (id t : Int) (w : World) (hL : LightN T l) (hT : TiersR w w.heap.size d.ta d.tn T) (hl : NotesR w w.heap.size d.na d.nn l) (hn : d.nn < 20) (ht : 0 <= t /\ t < (T.length : Int)) :
  Calls Tryz.prog 47 #[docV d, .int .i64 id, .int .i64 t] w fun e w' => ∃ v, e = .returned v /\ OwnI w' w.heap.size v (kidF T l id t) /\ Below w.heap.size w w' := by
 have hlen : (ofL T l t).length <= 20 := by
  have h1 := ofI_len (T := T) (l := l) (t := t);have h2 := hl.len;unfold ofI at h1;rw [if_neg (by omega)] at h1;omega
 have HOF := hI fun (W : World) (hW : Below w.heap.size w W) => of39_any d T l t W hL (hT.on hW) (hl.on hW) (by omega)
 have HG := hI fun (W : World) (hW : Below w.heap.size w W) (i : Int) => refGet_any d l i W (hl.on hW) (by omega)
 have hE : kidF T l id t = (ofL T l t).filter fun k => decide (((getN l k).getD nt0).parent = id) := by unfold kidF ofI; rw [if_neg (by omega)]
 rw [hE];obtain ⟨ids, hids⟩ : ∃ ids, ofL T l t = ids := ⟨_, rfl⟩;rw [hids] at HOF hlen |-;clear hT hl hL hE hids ht;unfold docV at HOF HG;unfold docV;obtain ⟨rid, name, len, day, sa, sn, sc, ta, tn, tc, na, nn, nc⟩ := d;simp only at HOF HG hn |-;obtain ⟨W0, hW0, hz0, hB0, hK0⟩ := doc_cells w rid name len day sa ta na sn sc tn tc nn nc;obtain ⟨W1, hW1⟩ : ∃ W1, W0.alloc (.cells #[] 3) = W1 := ⟨_, rfl⟩;have HB : Hid (Below w.heap.size w W1) := by rw [<- hW1]; exact hB0.alloc hB0.size _
 have hz1 : W1.heap.size = w.heap.size + 2 := by rw [<- hW1]; simp; omega
 have hb01 : Below W0.heap.size W0 W1 := by rw [<- hW1]; exact bR.alloc (Nat.le_refl _) _
 have HK : Hid (∀ W, Below (w.heap.size + 1) W1 W -> W.rangeAt w.heap.size 0 [.int .i64 rid, .string name, .int .i64 len, .int .i64 day, .slice sa sn sc, .slice ta tn tc, .slice na nn nc]) := fun W hW j v hv => by
  rw [hW.cell (p := ⟨w.heap.size, 0 + j, none⟩) (by show w.heap.size < _; omega)];exact hK0 W1 hb01 j v hv
 have HOI : Hid (OwnI W1 (w.heap.size + 1) (.slice (some ⟨w.heap.size + 1, 0, none⟩) 0 0) []) := by
  rw [<- hW1, <- hz0];exact int_made W0 W0.heap.size (Nat.le_refl _)
 clear hB0 hK0 hb01;obtain ⟨k0, k1, k2, k3, k4, k5, k6⟩ := range7 (HK.out W1 (Below.refl _ _));have HOO := hI (HOF.out W1 HB.out);go_enter Tryz.func47, Tryz.ntmps47
 go_upto_region 2 with fail
 (try rw [hW0])
 (try rw [hW1])
 (try simp only [hz0])
 clear hW0 hW1;go_wp2_with fail
 refine HOO.out.mono ?_;rintro e w8 ⟨v8, rfl, hO8, hb8⟩;have HB8 : Hid (Below w.heap.size w w8) := HB.out.trans (hb8.mono HB.out.size);have HB18 := hI hb8;have HOI8 := hI (HOI.out.on hb8);have hz8 := hb8.size;obtain ⟨A8, c8, hv8, h8a, h8b, h8r⟩ := OwnI.form hO8;subst hv8;have HIR : Hid (OwnI w8 W1.heap.size (.slice A8 ids.length c8) ids) := hO8
 have HAP : Hid (Apart (.slice A8 ids.length c8) (.slice (some ⟨w.heap.size + 1, 0, none⟩) 0 0)) := fun b hb he => by
  have h1 := (hO8.lt b hb).1;simp [Value.ownBlock] at he
  omega
 clear hO8 hb8 h8a h8b h8r HOO HOF HOI k0 k1 k2 k3 k4 k5 k6;obtain ⟨w0, hw0⟩ : ∃ w0, w8 = w0 := ⟨_, rfl⟩;rw [hw0] at HB8 HB18 HOI8 HIR hz8 |-;clear hw0;go_wp2_with fail
 go_loopw [7, 9, 10, 11] (fun v7 v9 v10 v11 wr => ∃ i : Nat, i <= ids.length /\ v9 = .int .i64 i /\ Hid (OwnI wr (w.heap.size + 1) v7 ((ids.take i).filter fun k => decide (((getN l k).getD nt0).parent = id))) /\ Hid (OwnI wr W1.heap.size (.slice A8 ids.length c8) ids) /\ Hid (Apart (.slice A8 ids.length c8) v7) /\ Hid (Below (w.heap.size + 1) W1 wr) /\ Hid (Below w.heap.size w wr)) (fun _ v9 _ _ _ => ids.length - (intOf v9).toNat)
 case atStart => exact ⟨0, Nat.zero_le _, rfl, HOI8.out, HIR.out, HAP.out, HB18.out.mono (by omega), HB8.out⟩
 case round =>
  clear HOI8 HIR HAP HB18 HB8;obtain ⟨i, hi, rfl, HO, HIR, HAP, HB02, HBW⟩ := hrel;obtain ⟨w2, hw2⟩ : ∃ w2, wr = w2 := ⟨_, rfl⟩;rw [hw2] at HO HIR HB02 HBW |-;clear hw2;have hsz2 : w.heap.size + 1 <= w2.heap.size := by have := HB02.out.size; omega
  by_cases hlt : i < ids.length
  ·have hiz : (i : Int) < (ids.length : Int) := by omega
   have hiA : (0 : Int) <= (i : Int) := by omega
   obtain ⟨A9, c9, hv9, _, _, h9r⟩ := OwnI.form HIR.out;injection hv9 with hA9 _ hc9
   rw [<- hA9] at h9r;obtain ⟨bd, x, hA, hbb, hidx, hc⟩ := h9r.at_ hlt;subst hA;have HCX : Hid (∀ W, Below w2.heap.size w2 W -> W.cell? (bd.add i) = some (.int .i64 x)) := fun W hW => (hW.cell (by rw [block_of_add]; exact hbb)).trans hc
   have HLT := hI hlt;have HNX := hI (filter_next (p := fun k => decide (((getN l k).getD nt0).parent = id)) hidx)
   have hpt : ((ids.take i).filter fun k => decide (((getN l k).getD nt0).parent = id)).length <= 20 := by
    have h1 := List.length_filter_le (fun k => decide (((getN l k).getD nt0).parent = id)) (ids.take i);rw [List.length_take] at h1;omega
   obtain ⟨ll, hll⟩ : ∃ ll, ((ids.take i).filter fun k => decide (((getN l k).getD nt0).parent = id)) = ll := ⟨_, rfl⟩;rw [hll] at HNX hpt HO;have HGX := hI fun (W : World) (hW : Below w2.heap.size w2 W) => HG.out W (HBW.out.trans (hW.mono HBW.out.size)) x
   unfold getV noteV at HGX;obtain ⟨y, hy⟩ : ∃ y, (getN l x).getD nt0 = y := ⟨_, rfl⟩;obtain ⟨bs, hbs⟩ : ∃ bs, (getN l x).isSome = bs := ⟨_, rfl⟩;have HNX2 : Hid ((ids.take (i + 1)).filter (fun k => decide (((getN l k).getD nt0).parent = id)) = ll ++ if decide (y.parent = id) = true then [x] else []) := by rw [<- hy]; exact HNX.out
   rw [hy, hbs] at HGX;clear hc hidx hll HNX h9r hy hbs hA9 hc9 hz8;go_upto_region 6 with fail
   refine wp_region_toldA 9 10 7 [.int .i64 y.nid, .int .i64 y.tier, .int .i64 y.parent, .int .i64 y.at1, .int .i64 y.at2, .int .i64 y.rank, .string y.text] [ToldA.is (.agg #[.int .i64 rid, .string name, .int .i64 len, .int .i64 day, .slice sa sn sc, .slice ta tn tc, .slice na nn nc]), ToldA.is (.slice (some bd) ids.length c8), ToldA.is (.int .i64 (i : Int)), ToldA.is (.pointer (some (bd.add i))), ToldA.is (.int .i64 x), ToldA.is (.tuple #[.agg #[.int .i64 y.nid, .int .i64 y.tier, .int .i64 y.parent, .int .i64 y.at1, .int .i64 y.at2, .int .i64 y.rank, .string y.text], .bool bs]), ToldA.is (.tuple #[.agg #[.int .i64 y.nid, .int .i64 y.tier, .int .i64 y.parent, .int .i64 y.at1, .int .i64 y.at2, .int .i64 y.rank, .string y.text], .bool bs]), ToldA.is (.agg #[.int .i64 y.nid, .int .i64 y.tier, .int .i64 y.parent, .int .i64 y.at1, .int .i64 y.at2, .int .i64 y.rank, .string y.text]), ToldA.is (.bool bs), ToldA.new, ToldA.put, ToldA.is (.bool bs)] (by omega) (by kernel_rfl) (by kernel_rfl) rfl ?_ ?_
   ·refine And.intro (fun w1 vals hB hd a1 ha1 K hK => ?_) ?_
    ·clear hd;subst ha1;simp only [putAll, Act.put, pS] at hK |-;refine gwp_none rfl ?_;obtain ⟨k0, k1, k2, k3, k4, k5, k6⟩ := range7 (HK.out w1 (HB02.out.trans (hB.mono hsz2)));go_simp;exact hK _ _ rfl bR
    refine And.intro (fun w1 vals hB hd a1 ha1 K hK => ?_) ?_
    ·clear hd;subst ha1;simp only [putAll, Act.put, pS] at hK |-;refine gwp_none rfl ?_;go_simp;exact hK _ _ rfl bR
    refine And.intro (fun w1 vals hB hd a1 ha1 K hK => ?_) ?_
    ·clear hd;subst ha1;simp only [putAll, Act.put, pS] at hK |-;refine gwp_none rfl ?_;go_simp;exact hK _ _ rfl bR
    refine And.intro (fun w1 vals hB hd a1 ha1 K hK => ?_) ?_
    ·have e1 := tIA (hd 1 rfl) rfl;have e2 := tIA (hd 2 rfl) rfl;clear hd;subst ha1;simp only [putAll, Act.put, pS] at hK |-;simp only [e1, e2] at hK |-;clear e1 e2;refine gwp_none rfl ?_;go_simp;exact hK _ _ rfl bR
    refine And.intro (fun w1 vals hB hd a1 ha1 K hK => ?_) ?_
    ·have e3 := tIA (hd 3 rfl) rfl;clear hd;subst ha1;simp only [putAll, Act.put, pS] at hK |-;simp only [e3] at hK |-;clear e3;refine gwp_none rfl ?_;have hcq : w1.cell? (bd.add i) = some (.int .i64 x) := HCX.out w1 hB;go_simp;exact hK _ _ rfl bR
    refine And.intro (fun w1 vals hB hd a1 ha1 K hK => ?_) ?_
    ·have e0 := tIA (hd 0 rfl) rfl;have e4 := tIA (hd 4 rfl) rfl;clear hd;subst ha1;simp only [putAll, Act.put, pS] at hK |-;simp only [e0, e4] at hK |-;clear e0 e4;refine gwp_none rfl ?_;go_simp;refine (HGX.out w1 hB).mono ?_;rintro e w3 ⟨rfl, hb⟩;exact hK _ _ rfl hb
    refine And.intro (fun w1 vals hB hd a1 ha1 K hK => ?_) ?_
    ·have e5 := tIA (hd 5 rfl) rfl;clear hd;subst ha1;simp only [putAll, Act.put, pS] at hK |-;simp only [e5] at hK |-;clear e5;refine gwp_none rfl ?_;go_simp;exact hK _ _ rfl bR
    refine And.intro (fun w1 vals hB hd a1 ha1 K hK => ?_) ?_
    ·have e6 := tIA (hd 6 rfl) rfl;clear hd;subst ha1;simp only [putAll, Act.put, pS] at hK |-;simp only [e6] at hK |-;clear e6;refine gwp_none rfl ?_;go_simp;exact hK _ _ rfl bR
    refine And.intro (fun w1 vals hB hd a1 ha1 K hK => ?_) ?_
    ·have e6 := tIA (hd 6 rfl) rfl;clear hd;subst ha1;simp only [putAll, Act.put, pS] at hK |-;simp only [e6] at hK |-;clear e6;refine gwp_none rfl ?_;go_simp;exact hK _ _ rfl bR
    refine And.intro (fun w1 vals hB hd a1 ha1 K hK => ?_) ?_
    ·clear hd;subst ha1;simp only [putAll, Act.put, pS] at hK |-;refine gwp_none rfl ?_;go_simp;exact hK _ _ ⟨_, rfl, hB.size, by simp, there_new w1 _ _⟩ (bR.alloc (Nat.le_refl _) _)
    refine And.intro (fun w1 vals hB hd a1 ha1 K hK => ?_) ?_
    ·have e7 := tIA (hd 7 rfl) rfl;have p9 : NewAt 7 _ (vals 9) _ := toldA_at (t := ToldA.new) (hd 9 rfl) rfl;clear hd;refine gwp_none rfl ?_;obtain ⟨bN, hvN, h0N, h1N, hth⟩ := p9;have hev1 : a1.eval (.tmp 10) = .pointer (some ⟨bN, 0, none⟩) := by rw [ha1]; exact (eval_slot (i := 9) (by kernel_rfl) (by kernel_rfl) rfl).trans hvN
     have hev2 : a1.eval (.tmp 29) = .agg #[.int .i64 y.nid, .int .i64 y.tier, .int .i64 y.parent, .int .i64 y.at1, .int .i64 y.at2, .int .i64 y.rank, .string y.text] := by rw [ha1]; exact (eval_slot (i := 7) (by kernel_rfl) (by kernel_rfl) rfl).trans e7
     clear ha1;obtain ⟨wS, hwS⟩ : ∃ wS, w1.setCells bN 0 (#[.int .i64 y.nid, .int .i64 y.tier, .int .i64 y.parent, .int .i64 y.at1, .int .i64 y.at2, .int .i64 y.rank, .string y.text] : Array Value).toList = wS := ⟨_, rfl⟩;have hX : BelowX bN w1 wS := by rw [<- hwS]; exact BelowX.set _ _ _
     have hR : wS.rangeAt bN 0 [.int .i64 y.nid, .int .i64 y.tier, .int .i64 y.parent, .int .i64 y.at1, .int .i64 y.at2, .int .i64 y.rank, .string y.text] := by rw [<- hwS]; exact World.rangeAt_setCells_same w1 bN 0 [.int .i64 y.nid, .int .i64 y.tier, .int .i64 y.parent, .int .i64 y.at1, .int .i64 y.at2, .int .i64 y.rank, .string y.text] hth
     refine wp_store_mid 58 (.tmp 10) (.tmp 29) rfl bN 0 #[.int .i64 y.nid, .int .i64 y.tier, .int .i64 y.parent, .int .i64 y.at1, .int .i64 y.at2, .int .i64 y.rank, .string y.text] hev1 hev2 hth (by kernel_rfl) (by simp [Value.oneCell']) ?_;rw [hwS];exact hK undef wS trivial ⟨by kernel_rfl, bN, hvN, h0N, h1N, hX, hR⟩
    refine And.intro (fun w1 vals hB hd a1 ha1 K hK => ?_) ?_
    ·have e8 := tIA (hd 8 rfl) rfl;clear hd;subst ha1;simp only [putAll, Act.put, pS] at hK |-;simp only [e8] at hK |-;clear e8;refine gwp_none rfl ?_;go_simp;exact hK _ _ rfl bR
    exact trivial
   ·intro wq vals hB hd hfl;have e11 := tIA (hd 11 (by decide)) rfl;obtain ⟨bN, hvN, h0N, h1N, hrN⟩ := hfl (by decide);clear hfl;clear hd;simp only [putAll, Act.put, pS];simp only [e11, hvN];clear e11 hvN;have HB03 : Hid (Below (w.heap.size + 1) W1 wq) := HB02.out.trans (hB.mono hsz2);have HBW3 : Hid (Below w.heap.size w wq) := HBW.out.trans (hB.mono HBW.out.size);have HOO := hI (HO.out.on hB);have HIO : Hid (OwnI wq W1.heap.size (.slice (some bd) ids.length c8) ids) := HIR.out.on hB;have hcw : wq.cell? (bd.add i) = some (.int .i64 x) := HCX.out wq hB;have hs3 : w.heap.size + 1 <= wq.heap.size := by have := hB.size; omega
    have c2 : wq.cell? ⟨bN, 2, none⟩ = some (.int .i64 y.parent) := hrN 2 _ rfl;clear hB HO HIR hrN h0N h1N HCX HGX;by_cases hp : y.parent = id
    ·have hd : decide (y.parent = id) = true := decide_eq_true hp;have hq : (y.parent == id) = true := beq_iff_eq.2 hp;clear hp;go_wp2_with (at_builtin; refine wpList_app1 rfl (.tmp 35) (.tmp 40) 32 rfl (w.heap.size + 1) 3 8 (.int .i64 0) info_int rfl Tryz.underlying32 rfl HOO.out rfl rfl (by omega) (by omega) hs3 ?_; rintro v5 w4 hown5 hb5 hs5 hk5)
     obtain ⟨hI4, hA4⟩ := hk5 _ _ _ _ _ _ HIO.out HAP.out;have HI4 := hI hI4;have HA4 := hI hA4;have HO4 : Hid (OwnI w4 (w.heap.size + 1) v5 (ll ++ [x])) := own_i hown5;have HB04 : Hid (Below (w.heap.size + 1) W1 w4) := HB03.out.trans hb5;have HBW4 : Hid (Below w.heap.size w w4) := HBW3.out.trans (hb5.mono (by omega));clear hown5 hb5 hk5 hI4 hA4;go_wp2;go_roundw
     case rel => exact ⟨i + 1, HLT.out, by go_num, (by rw [HNX2.out, if_pos hd]; exact HO4), HI4, HA4, HB04, HBW4⟩
     case measure => have := HLT.out; simp [intOf]; omega
    ·have hd : ¬ decide (y.parent = id) = true := by simpa using hp
     have hq : (y.parent == id) = false := beq_eq_false_iff_ne.2 hp;have HD := hI hd;clear hp hd;go_wp2;go_roundw
     case rel => exact ⟨i + 1, HLT.out, by go_num, (by rw [HNX2.out, if_neg HD.out, List.append_nil]; exact HOO), HIO, HAP, HB03, HBW3⟩
     case measure => have := HLT.out; simp [intOf]; omega
  ·obtain rfl : i = ids.length := by omega
   have hiz : ¬ (ids.length : Int) < (ids.length : Int) := by omega
   rw [List.take_length] at HO;go_wp2;go_ret;exact ⟨_, rfl, own_base HO.out (by omega), HBW.out⟩
end
end Go.Proofs.YthcabnfcgjnlnaaGreatDoor
