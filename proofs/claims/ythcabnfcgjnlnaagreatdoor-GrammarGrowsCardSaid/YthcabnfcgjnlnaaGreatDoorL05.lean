import Derived.Test.YthcabnfcgjnlnaaGreatDoorC12
import Derived.Test.YthcabnfcgjnlnaaGreatDoorL04
set_option linter.unusedVariables false
set_option linter.unusedSimpArgs false
namespace Go.Proofs.YthcabnfcgjnlnaaGreatDoor
section
open Go.RowKit Go.ChangeShapes Go.WideShapes Go.ChangeAt Go.Deep Go.Joins Ru Lay
section
variable {H : Type} {enc : TypeId × Value → H} {w : World} {spare : Nat → Bool} {held : Bool} {fuel : Nat} {v : Value} {x : DataW H × List MemPlace}
theorem trod_fields {t : TypeId} {fs : Array Field} {cs : List Value} (ht : Tryz.prog.underlying t = some (.struct fs)) (h : DataW.trod enc Tryz.prog w 0 spare held fuel t cs = some x) :
  ∃ n, ∀ (i : Nat) (f : Field), fs[i]? = some f -> ∃ y, DataW.trod enc Tryz.prog w 0 spare held n f.type ((cs.drop f.offset).take (Tryz.prog.cellsOf f.type)) = some y := by
 obtain ⟨xs, n, _, _, _, hlen, hs⟩ := DataW.trod_struct ht h
 refine ⟨n, fun i f hf => ?_⟩
 have hi : i < xs.length := by rw [hlen]; exact (Array.getElem?_eq_some_iff.1 hf).1
 exact ⟨xs[i], by rw [hs i f hf]; exact List.getElem?_eq_getElem hi⟩
theorem int_of {c : Value} (h : DataW.trod enc Tryz.prog w 0 spare held fuel 3 [c] = some x) : ∃ s, c = .int .i64 s := by
 obtain ⟨s, e, _, _⟩ := DataW.trod_int Tryz.underlying3 h
 injection e with e
 exact ⟨s, e⟩
theorem str_of {c : Value} (h : DataW.trod enc Tryz.prog w 0 spare held fuel 9 [c] = some x) : ∃ s, c = .string s /\ s.size <= maxLen := by
 obtain ⟨s, e, _, hs⟩ := DataW.trod_string Tryz.underlying9 h
 injection e with e
 exact ⟨s, e, hs⟩
theorem note_of {c0 c1 c2 c3 c4 c5 c6 : Value} (h : DataW.trod enc Tryz.prog w 0 spare held fuel 58 [c0, c1, c2, c3, c4, c5, c6] = some x) : ∃ n : Nt, [c0, c1, c2, c3, c4, c5, c6] = encN n := by
 have hcp : Tryz.prog.cellsOf 56 = 2 := by kernel_rfl
 have hci : Tryz.prog.cellsOf 3 = 1 := by kernel_rfl
 have hcs : Tryz.prog.cellsOf 9 = 1 := by kernel_rfl
 obtain ⟨n, hs⟩ := trod_fields Tryz.underlying58 h
 obtain ⟨_, t0⟩ : ∃ y, DataW.trod enc Tryz.prog w 0 spare held n 3 (([c0, c1, c2, c3, c4, c5, c6].drop 0).take (Tryz.prog.cellsOf 3)) = some y := hs 0 _ rfl
 obtain ⟨_, t1⟩ : ∃ y, DataW.trod enc Tryz.prog w 0 spare held n 3 (([c0, c1, c2, c3, c4, c5, c6].drop 1).take (Tryz.prog.cellsOf 3)) = some y := hs 1 _ rfl
 obtain ⟨_, t2⟩ : ∃ y, DataW.trod enc Tryz.prog w 0 spare held n 3 (([c0, c1, c2, c3, c4, c5, c6].drop 2).take (Tryz.prog.cellsOf 3)) = some y := hs 2 _ rfl
 obtain ⟨_, t3⟩ : ∃ y, DataW.trod enc Tryz.prog w 0 spare held n 56 (([c0, c1, c2, c3, c4, c5, c6].drop 3).take (Tryz.prog.cellsOf 56)) = some y := hs 3 _ rfl
 obtain ⟨_, t4⟩ : ∃ y, DataW.trod enc Tryz.prog w 0 spare held n 3 (([c0, c1, c2, c3, c4, c5, c6].drop 5).take (Tryz.prog.cellsOf 3)) = some y := hs 4 _ rfl
 obtain ⟨_, t5⟩ : ∃ y, DataW.trod enc Tryz.prog w 0 spare held n 9 (([c0, c1, c2, c3, c4, c5, c6].drop 6).take (Tryz.prog.cellsOf 9)) = some y := hs 5 _ rfl
 simp only [hcp, hci, hcs, List.drop, List.take] at t0 t1 t2 t3 t4 t5
 obtain ⟨n2, hr⟩ := trod_fields Tryz.underlying56 t3
 obtain ⟨_, r0⟩ : ∃ y, DataW.trod enc Tryz.prog w 0 spare held n2 3 (([c3, c4].drop 0).take (Tryz.prog.cellsOf 3)) = some y := hr 0 _ rfl
 obtain ⟨_, r1⟩ : ∃ y, DataW.trod enc Tryz.prog w 0 spare held n2 3 (([c3, c4].drop 1).take (Tryz.prog.cellsOf 3)) = some y := hr 1 _ rfl
 simp only [hci, List.drop, List.take] at r0 r1
 obtain ⟨s0, rfl⟩ := int_of t0
 obtain ⟨s1, rfl⟩ := int_of t1
 obtain ⟨s2, rfl⟩ := int_of t2
 obtain ⟨s3, rfl⟩ := int_of r0
 obtain ⟨s4, rfl⟩ := int_of r1
 obtain ⟨s5, rfl⟩ := int_of t4
 obtain ⟨s6, rfl, _⟩ := str_of t5
 exact ⟨⟨s0, s1, s2, s3, s4, s5, s6⟩, rfl⟩
theorem tier_of {c0 c1 c2 c3 : Value} (h : DataW.trod enc Tryz.prog w 0 spare held fuel 86 [c0, c1, c2, c3] = some x) : ∃ n : Ti, [c0, c1, c2, c3] = encT n /\ n.name.size <= 9223372036854775807 := by
 have hci : Tryz.prog.cellsOf 3 = 1 := by kernel_rfl
 have hcs : Tryz.prog.cellsOf 9 = 1 := by kernel_rfl
 obtain ⟨n, hs⟩ := trod_fields Tryz.underlying86 h
 obtain ⟨_, t0⟩ : ∃ y, DataW.trod enc Tryz.prog w 0 spare held n 9 (([c0, c1, c2, c3].drop 0).take (Tryz.prog.cellsOf 9)) = some y := hs 0 _ rfl
 obtain ⟨_, t1⟩ : ∃ y, DataW.trod enc Tryz.prog w 0 spare held n 3 (([c0, c1, c2, c3].drop 1).take (Tryz.prog.cellsOf 3)) = some y := hs 1 _ rfl
 obtain ⟨_, t2⟩ : ∃ y, DataW.trod enc Tryz.prog w 0 spare held n 3 (([c0, c1, c2, c3].drop 2).take (Tryz.prog.cellsOf 3)) = some y := hs 2 _ rfl
 obtain ⟨_, t3⟩ : ∃ y, DataW.trod enc Tryz.prog w 0 spare held n 3 (([c0, c1, c2, c3].drop 3).take (Tryz.prog.cellsOf 3)) = some y := hs 3 _ rfl
 simp only [hci, hcs, List.drop, List.take] at t0 t1 t2 t3
 obtain ⟨s0, rfl, h0⟩ := str_of t0
 obtain ⟨s1, rfl⟩ := int_of t1
 obtain ⟨s2, rfl⟩ := int_of t2
 obtain ⟨s3, rfl⟩ := int_of t3
 exact ⟨⟨s0, s1, s2, s3⟩, rfl, by unfold maxLen at h0; exact h0⟩
theorem recR_of {α : Type} [Inhabited α] {f : α -> List Value} {s len : Nat} {a : Addr} {p : α -> Prop} (hs : 0 < s) (hf : ∀ x, (f x).length = s) (h : ∀ i, i < len -> ∃ x : α, (∀ j u, (f x)[j]? = some u -> w.cell? (a.add (i * s + j)) = some u) /\ p x) :
  ∃ l, RecR f s w w.heap.size (some a) len l /\ ∀ x ∈ l, p x := by
 obtain ⟨U, hlen, hU⟩ := list_of (α := α) (n := len) (p := fun i x => (∀ j u, (f x)[j]? = some u -> w.cell? (a.add (i * s + j)) = some u) /\ p x) h
 refine ⟨U, ⟨⟨by rw [flat_len hf, hlen], fun hn => ⟨a, rfl, ?_, fun j u hu => ?_⟩⟩, hlen⟩, fun x hx => ?_⟩
 ·have hl0 : 0 < (f U[0]).length := by rw [hf]; exact hs
  have h0 := (hU 0 U[0] (List.getElem?_eq_getElem (by omega))).1 0 _ (List.getElem?_eq_getElem hl0)
  have := World.block_lt_of_cell? w _ h0
  rw [block_of_add] at this
  exact this
 ·have hjl : j < len * s := by have := (List.getElem?_eq_some_iff.1 hu).1; rw [flat_len hf, hlen] at this; exact this
  have hk : j / s < U.length := by rw [hlen]; exact Nat.div_lt_of_lt_mul (by rw [Nat.mul_comm]; exact hjl)
  have hp := List.getElem?_eq_getElem hk
  have e : j / s * s + j % s = j := by rw [Nat.mul_comm]; exact Nat.div_add_mod j s
  have h1 := flat_at (f := f) hf hp (Nat.mod_lt j hs)
  rw [e, hu] at h1
  have := (hU (j / s) _ hp).1 (j % s) u h1.symm
  rw [e] at this
  exact this
 ·obtain ⟨i, hi⟩ := List.getElem?_of_mem hx
  exact (hU i x hi).2
theorem open_NotesR (hf : DataW.trod enc Tryz.prog w 0 spare held fuel 36 [v] = some x) : ∃ A n c l, v = .slice A n c /\ NotesR w w.heap.size A n l /\ n <= maxLen := by
 rcases open_slice Tryz.underlying36 hf with ⟨h0, _⟩ | ⟨a, len, cap, m, n, D, Pl, h0, _, hl, hm, hmm, _, hx⟩
 ·injection h0 with h0
  subst h0
  exact ⟨none, 0, 0, [], rfl, RecR.none_, Nat.zero_le _⟩
 ·injection h0 with h0
  subst h0
  have hlm : len <= m := by rw [hmm]; split <;> omega
  have hce : Tryz.prog.cellsOf 58 = 7 := by kernel_rfl
  rw [hce] at hx
  obtain ⟨l, hr, _⟩ := recR_of (w := w) (α := Nt) (f := encN) (s := 7) (len := len) (a := a) (p := fun _ => True) (by omega) encN_len (fun i hi => by
   obtain ⟨cs, h1, h2⟩ := hx i (by omega)
   obtain ⟨_, hcl7, hcc⟩ := World.cells?_some h1
   obtain ⟨c0, c1, c2, c3, c4, c5, c6, rfl⟩ : ∃ c0 c1 c2 c3 c4 c5 c6, cs = [c0, c1, c2, c3, c4, c5, c6] := by
    match cs, hcl7 with
    | [c0, c1, c2, c3, c4, c5, c6], _ => exact ⟨c0, c1, c2, c3, c4, c5, c6, rfl⟩
   obtain ⟨y, hy⟩ := note_of h2
   refine ⟨y, fun j u hu => ?_, trivial⟩
   rw [<- hy] at hu
   have hj : j < 7 := (List.getElem?_eq_some_iff.1 hu).1
   have := hcc j (by simpa using hj)
   rw [add_of_add] at this
   rw [this]
   exact hu)
  exact ⟨some a, len, cap, l, rfl, hr, by omega⟩
theorem open_TiersR (hf : DataW.trod enc Tryz.prog w 0 spare held fuel 35 [v] = some x) : ∃ A n c l, v = .slice A n c /\ TiersR w w.heap.size A n l /\ n <= maxLen := by
 rcases open_slice Tryz.underlying35 hf with ⟨h0, _⟩ | ⟨a, len, cap, m, n, D, Pl, h0, _, hl, hm, hmm, _, hx⟩
 ·injection h0 with h0
  subst h0
  exact ⟨none, 0, 0, [], rfl, ⟨RecR.none_, fun _ h => by cases h⟩, Nat.zero_le _⟩
 ·injection h0 with h0
  subst h0
  have hlm : len <= m := by rw [hmm]; split <;> omega
  have hce : Tryz.prog.cellsOf 86 = 4 := by kernel_rfl
  rw [hce] at hx
  obtain ⟨l, hr, hp⟩ := recR_of (w := w) (α := Ti) (f := encT) (s := 4) (len := len) (a := a) (p := fun t => t.name.size <= 9223372036854775807) (by omega) encT_len (fun i hi => by
   obtain ⟨cs, h1, h2⟩ := hx i (by omega)
   obtain ⟨_, hcl4, hcc⟩ := World.cells?_some h1
   obtain ⟨c0, c1, c2, c3, rfl⟩ : ∃ c0 c1 c2 c3, cs = [c0, c1, c2, c3] := by
    match cs, hcl4 with
    | [c0, c1, c2, c3], _ => exact ⟨c0, c1, c2, c3, rfl⟩
   obtain ⟨y, hy, hyn⟩ := tier_of h2
   refine ⟨y, fun j u hu => ?_, hyn⟩
   rw [<- hy] at hu
   have hj : j < 4 := (List.getElem?_eq_some_iff.1 hu).1
   have := hcc j (by simpa using hj)
   rw [add_of_add] at this
   rw [this]
   exact hu)
  exact ⟨some a, len, cap, l, rfl, ⟨hr, hp⟩, by omega⟩
theorem doc_of {c0 c1 c2 c3 c4 c5 c6 : Value} (h : DataW.trod enc Tryz.prog w 0 spare held fuel 38 [c0, c1, c2, c3, c4, c5, c6] = some x) :
  ∃ (d : Dv) (T : List Ti) (l : List Nt), [c0, c1, c2, c3, c4, c5, c6] = [.int .i64 d.rid, .string d.name, .int .i64 d.len, .int .i64 d.day, .slice d.sa d.sn d.sc, .slice d.ta d.tn d.tc, .slice d.na d.nn d.nc] /\ TiersR w w.heap.size d.ta d.tn T /\ NotesR w w.heap.size d.na d.nn l /\ d.nn <= 9223372036854775807 := by
 have hcp : Tryz.prog.cellsOf 34 = 5 := by kernel_rfl
 have hci : Tryz.prog.cellsOf 3 = 1 := by kernel_rfl
 have hcs : Tryz.prog.cellsOf 9 = 1 := by kernel_rfl
 have hc1 : Tryz.prog.cellsOf 32 = 1 := by kernel_rfl
 have hc2 : Tryz.prog.cellsOf 35 = 1 := by kernel_rfl
 have hc3 : Tryz.prog.cellsOf 36 = 1 := by kernel_rfl
 obtain ⟨n, hs⟩ := trod_fields Tryz.underlying38 h
 obtain ⟨_, t0⟩ : ∃ y, DataW.trod enc Tryz.prog w 0 spare held n 34 (([c0, c1, c2, c3, c4, c5, c6].drop 0).take (Tryz.prog.cellsOf 34)) = some y := hs 0 _ rfl
 obtain ⟨_, t1⟩ : ∃ y, DataW.trod enc Tryz.prog w 0 spare held n 35 (([c0, c1, c2, c3, c4, c5, c6].drop 5).take (Tryz.prog.cellsOf 35)) = some y := hs 1 _ rfl
 obtain ⟨_, t2⟩ : ∃ y, DataW.trod enc Tryz.prog w 0 spare held n 36 (([c0, c1, c2, c3, c4, c5, c6].drop 6).take (Tryz.prog.cellsOf 36)) = some y := hs 2 _ rfl
 simp only [hcp, hc2, hc3, List.drop, List.take] at t0 t1 t2
 obtain ⟨n2, hr⟩ := trod_fields Tryz.underlying34 t0
 obtain ⟨_, r0⟩ : ∃ y, DataW.trod enc Tryz.prog w 0 spare held n2 3 (([c0, c1, c2, c3, c4].drop 0).take (Tryz.prog.cellsOf 3)) = some y := hr 0 _ rfl
 obtain ⟨_, r1⟩ : ∃ y, DataW.trod enc Tryz.prog w 0 spare held n2 9 (([c0, c1, c2, c3, c4].drop 1).take (Tryz.prog.cellsOf 9)) = some y := hr 1 _ rfl
 obtain ⟨_, r2⟩ : ∃ y, DataW.trod enc Tryz.prog w 0 spare held n2 3 (([c0, c1, c2, c3, c4].drop 2).take (Tryz.prog.cellsOf 3)) = some y := hr 2 _ rfl
 obtain ⟨_, r3⟩ : ∃ y, DataW.trod enc Tryz.prog w 0 spare held n2 3 (([c0, c1, c2, c3, c4].drop 3).take (Tryz.prog.cellsOf 3)) = some y := hr 3 _ rfl
 obtain ⟨_, r4⟩ : ∃ y, DataW.trod enc Tryz.prog w 0 spare held n2 32 (([c0, c1, c2, c3, c4].drop 4).take (Tryz.prog.cellsOf 32)) = some y := hr 4 _ rfl
 simp only [hci, hcs, hc1, List.drop, List.take] at r0 r1 r2 r3 r4
 obtain ⟨s0, rfl⟩ := int_of r0
 obtain ⟨s1, rfl, _⟩ := str_of r1
 obtain ⟨s2, rfl⟩ := int_of r2
 obtain ⟨s3, rfl⟩ := int_of r3
 obtain ⟨sa, sn, sc, _, rfl, _, _⟩ := open_ints r4
 obtain ⟨ta, tn, tc, T, rfl, hT, _⟩ := open_TiersR t1
 obtain ⟨na, nn, nc, l, rfl, hl, hn⟩ := open_NotesR t2
 exact ⟨⟨s0, s1, s2, s3, sa, sn, sc, ta, tn, tc, na, nn, nc⟩, T, l, rfl, hT, hl, by unfold maxLen at hn; exact hn⟩
end
end
section
open Go.RowKit Ru Lay
attribute [local go_sem ↓] Go.wp_at_zero Go.wp_at_succ
def FewP (p : Pt) : Prop := p.title.size <= 100 /\ p.text.size <= 400 /\ p.rn <= 20
def FewPost55 (n : Nat) (L : List Pt) (w : World) (e : Ending) (w' : World) : Prop := ∃ b, e = .returned (.bool b) /\ (b = true -> n <= 45 /\ ∀ p ∈ L, FewP p) /\ w = w'
theorem FewPost55.no {n : Nat} {L : List Pt} {w : World} : FewPost55 n L w (.returned (.bool false)) w := ⟨false, rfl, fun h => (by cases h), rfl⟩
theorem pre_allG {α : Type} {l : List α} {Q : α -> Prop} (h : ∀ j x, j < l.length -> l[j]? = some x -> Q x) : ∀ x ∈ l, Q x := fun x hx => by
 obtain ⟨j, hj⟩ := List.getElem?_of_mem hx
 exact h j x (List.getElem?_eq_some_iff.1 hj).1 hj
theorem pre_nextG {α : Type} {l : List α} {Q : α -> Prop} {i : Nat} {x : α} (h : ∀ j y, j < i -> l[j]? = some y -> Q y) (hx : l[i]? = some x) (hq : Q x) : ∀ j y, j < i + 1 -> l[j]? = some y -> Q y := fun j y hj hy => by
 by_cases e : j = i
 ·subst e
  rw [hx] at hy
  cases hy
  exact hq
 ·exact h j y (by omega) hy
set_option maxHeartbeats 4000000 in
set_option maxRecDepth 100000 in
theorem few55_any (A : Option Addr) (n c : Nat) (L : List Pt) (w : World) (hP : PtsR w w.heap.size A n L) (hn : n <= 9223372036854775807) :
  Calls Tryz.prog 10 #[.slice A n c] w (FewPost55 n L w) := by
 have HL := hI hP
 have HLN := hI hP.len
 clear hP
 go_enter Tryz.func10, Tryz.ntmps10
 go_wp2_with fail
 go_loop [3] (fun v3 => ∃ i : Nat, i <= n /\ i <= 46 /\ v3 = .int .i64 i /\ Hid (∀ j p, j < i -> L[j]? = some p -> FewP p)) (fun v3 => n - (intOf v3).toNat)
 case atStart => exact ⟨0, Nat.zero_le _, by omega, rfl, fun j p h => by omega⟩
 case round =>
  obtain ⟨i, hi, hi46, rfl, HP⟩ := hrel
  by_cases hlt : i < n
  ·have hiz : (i : Int) < (n : Int) := by omega
   have hiA : (0 : Int) <= (i : Int) := by omega
   by_cases h46 : i < 46
   ·have hi2 : (i : Int) < 46 := by omega
    have hi3 : i < 46 := h46
    obtain ⟨ad, p, rfl, hab, hp, hpr, hpc⟩ := HL.out.at_ hlt
    obtain ⟨q0, q1, q2, q3, q4⟩ := hpc w bR
    have HX := hI hp
    have HI := hI hlt
    clear hp hpc hpr
    by_cases h1 : p.title.size <= 100
    ·have d1 : decide ((p.title.size : Int) > 100) = false := decide_eq_false (by omega)
     have d1' : decide (100 < p.title.size) = false := decide_eq_false (by omega)
     have d1'' : decide ((100 : Int) < (p.title.size : Int)) = false := decide_eq_false (by omega)
     by_cases h2 : p.text.size <= 400
     ·have d2 : decide ((p.text.size : Int) > 400) = false := decide_eq_false (by omega)
      have d2' : decide (400 < p.text.size) = false := decide_eq_false (by omega)
      have d2'' : decide ((400 : Int) < (p.text.size : Int)) = false := decide_eq_false (by omega)
      by_cases h3 : p.en <= 40
      ·have d3 : decide ((p.en : Int) > 40) = false := decide_eq_false (by omega)
       have d3' : decide (40 < p.en) = false := decide_eq_false (by omega)
       have d3'' : decide ((40 : Int) < (p.en : Int)) = false := decide_eq_false (by omega)
       by_cases h4 : p.rn <= 20
       ·have d4 : decide ((p.rn : Int) > 20) = false := decide_eq_false (by omega)
        have d4' : decide (20 < p.rn) = false := decide_eq_false (by omega)
        have d4'' : decide ((20 : Int) < (p.rn : Int)) = false := decide_eq_false (by omega)
        have HQ := hI (pre_nextG HP.out HX.out ⟨h1, h2, h4⟩)
        have hi1 : i + 1 <= 46 := by omega
        clear h1 h2 h3 h4
        go_wp2
        go_round
        case rel => exact ⟨i + 1, HI.out, hi1, by go_num, HQ⟩
        case measure => have := HI.out; simp [intOf]; omega
       ·have d4 : decide ((p.rn : Int) > 20) = true := decide_eq_true (by omega)
        have d4' : decide (20 < p.rn) = true := decide_eq_true (by omega)
        have d4'' : decide ((20 : Int) < (p.rn : Int)) = true := decide_eq_true (by omega)
        clear h1 h2 h3 h4
        go_wp2
        go_ret
        exact FewPost55.no
      ·have d3 : decide ((p.en : Int) > 40) = true := decide_eq_true (by omega)
       have d3' : decide (40 < p.en) = true := decide_eq_true (by omega)
       have d3'' : decide ((40 : Int) < (p.en : Int)) = true := decide_eq_true (by omega)
       clear h1 h2 h3
       go_wp2
       go_ret
       exact FewPost55.no
     ·have d2 : decide ((p.text.size : Int) > 400) = true := decide_eq_true (by omega)
      have d2' : decide (400 < p.text.size) = true := decide_eq_true (by omega)
      have d2'' : decide ((400 : Int) < (p.text.size : Int)) = true := decide_eq_true (by omega)
      clear h1 h2
      go_wp2
      go_ret
      exact FewPost55.no
    ·have d1 : decide ((p.title.size : Int) > 100) = true := decide_eq_true (by omega)
     have d1' : decide (100 < p.title.size) = true := decide_eq_true (by omega)
     have d1'' : decide ((100 : Int) < (p.title.size : Int)) = true := decide_eq_true (by omega)
     clear h1
     go_wp2
     go_ret
     exact FewPost55.no
   ·have hi2 : ¬ (i : Int) < 46 := by omega
    have hd : decide ((n : Int) <= 45) = false := decide_eq_false (by omega)
    have hd2 : decide (n <= 45) = false := decide_eq_false (by omega)
    have hd3 : ¬ (n <= 45) := by omega
    go_wp2
    go_ret
    exact FewPost55.no
  ·obtain rfl : n = i := by omega
   have hiz : ¬ (n : Int) < (n : Int) := by omega
   have HQ : Hid (∀ p ∈ L, FewP p) := pre_allG fun j p hj hp => HP.out j p (by rw [<- HLN.out]; exact hj) hp
   by_cases h45 : n <= 45
   ·have hd : (n : Int) <= 45 := by omega
    have H45 := hI h45
    go_wp2
    go_ret
    exact ⟨true, rfl, fun _ => ⟨H45.out, HQ.out⟩, rfl⟩
   ·have hd : ¬ (n : Int) <= 45 := by omega
    have hd2 : decide ((n : Int) <= 45) = false := decide_eq_false hd
    go_wp2
    go_ret
    exact FewPost55.no
end
section
open Go.RowKit Go.ChangeShapes Go.WideShapes Go.ChangeAt Go.Deep Go.Joins Ru Lay
section
variable {H : Type} {enc : TypeId × Value → H} {w : World} {spare : Nat → Bool} {held : Bool} {fuel : Nat} {v : Value} {x : DataW H × List MemPlace}
instance : Inhabited Pt := ⟨⟨0, ⟨#[]⟩, ⟨#[]⟩, none, 0, 0, none, 0, 0, []⟩⟩
theorem intw_of {c : Value} (h : DataW.trod enc Tryz.prog w 0 spare held fuel 3 [c] = some x) : ∃ s, c = .int .i64 s /\ (Lit.int .i64 s).wf = true := by
 obtain ⟨s, e, _, hw⟩ := DataW.trod_int Tryz.underlying3 h
 injection e with e
 exact ⟨s, e, hw⟩
theorem ref_of {c0 c1 : Value} (h : DataW.trod enc Tryz.prog w 0 spare held fuel 24 [c0, c1] = some x) : ∃ r : Rf, [c0, c1] = encR r /\ RfOk r := by
 have hci : Tryz.prog.cellsOf 3 = 1 := by kernel_rfl
 obtain ⟨n, hs⟩ := trod_fields Tryz.underlying24 h
 obtain ⟨_, t0⟩ : ∃ y, DataW.trod enc Tryz.prog w 0 spare held n 3 (([c0, c1].drop 0).take (Tryz.prog.cellsOf 3)) = some y := hs 0 _ rfl
 obtain ⟨_, t1⟩ : ∃ y, DataW.trod enc Tryz.prog w 0 spare held n 3 (([c0, c1].drop 1).take (Tryz.prog.cellsOf 3)) = some y := hs 1 _ rfl
 simp only [hci, List.drop, List.take] at t0 t1
 obtain ⟨s0, rfl, h0⟩ := intw_of t0
 obtain ⟨s1, rfl, h1⟩ := intw_of t1
 exact ⟨(s0, s1), rfl, h0, h1⟩
theorem open_RefsR (hf : DataW.trod enc Tryz.prog w 0 spare held fuel 28 [v] = some x) : ∃ A n c l, v = .slice A n c /\ RefsR w w.heap.size A n l /\ (∀ r ∈ l, RfOk r) /\ n <= maxLen := by
 rcases open_slice Tryz.underlying28 hf with ⟨h0, _⟩ | ⟨a, len, cap, m, n, D, Pl, h0, _, hl, hm, hmm, _, hx⟩
 ·injection h0 with h0
  subst h0
  exact ⟨none, 0, 0, [], rfl, RecR.none_, fun _ h => (by cases h), Nat.zero_le _⟩
 ·injection h0 with h0
  subst h0
  have hlm : len <= m := by rw [hmm]; split <;> omega
  have hce : Tryz.prog.cellsOf 24 = 2 := by kernel_rfl
  rw [hce] at hx
  obtain ⟨l, hr, hp⟩ := recR_of (w := w) (α := Rf) (f := encR) (s := 2) (len := len) (a := a) (p := RfOk) (by omega) encR_len (fun i hi => by
   obtain ⟨cs, h1, h2⟩ := hx i (by omega)
   obtain ⟨_, hcl, hcc⟩ := World.cells?_some h1
   obtain ⟨c0, c1, rfl⟩ : ∃ c0 c1, cs = [c0, c1] := by
    match cs, hcl with
    | [c0, c1], _ => exact ⟨c0, c1, rfl⟩
   obtain ⟨y, hy, hyn⟩ := ref_of h2
   refine ⟨y, fun j u hu => ?_, hyn⟩
   rw [<- hy] at hu
   have hj : j < 2 := (List.getElem?_eq_some_iff.1 hu).1
   have := hcc j (by simpa using hj)
   rw [add_of_add] at this
   rw [this]
   exact hu)
  exact ⟨some a, len, cap, l, rfl, hr, hp, by omega⟩
theorem pointE_of {c0 c1 c2 c3 c4 : Value} (h : DataW.trod enc Tryz.prog w 0 spare held fuel 65 [c0, c1, c2, c3, c4] = some x) : ∃ p : Pt, [c0, c1, c2, c3, c4] = encP p /\ PtR w w.heap.size p /\ p.en <= 9223372036854775807 /\ ∃ ls : List Int, Reads w w.heap.size 1 p.ea p.en (ls.map (.int .i64)) := by
 have hci : Tryz.prog.cellsOf 3 = 1 := by kernel_rfl
 have hcs : Tryz.prog.cellsOf 9 = 1 := by kernel_rfl
 have hc1 : Tryz.prog.cellsOf 32 = 1 := by kernel_rfl
 have hc2 : Tryz.prog.cellsOf 28 = 1 := by kernel_rfl
 obtain ⟨n, hs⟩ := trod_fields Tryz.underlying65 h
 obtain ⟨_, t0⟩ : ∃ y, DataW.trod enc Tryz.prog w 0 spare held n 3 (([c0, c1, c2, c3, c4].drop 0).take (Tryz.prog.cellsOf 3)) = some y := hs 0 _ rfl
 obtain ⟨_, t1⟩ : ∃ y, DataW.trod enc Tryz.prog w 0 spare held n 9 (([c0, c1, c2, c3, c4].drop 1).take (Tryz.prog.cellsOf 9)) = some y := hs 1 _ rfl
 obtain ⟨_, t2⟩ : ∃ y, DataW.trod enc Tryz.prog w 0 spare held n 9 (([c0, c1, c2, c3, c4].drop 2).take (Tryz.prog.cellsOf 9)) = some y := hs 2 _ rfl
 obtain ⟨_, t3⟩ : ∃ y, DataW.trod enc Tryz.prog w 0 spare held n 32 (([c0, c1, c2, c3, c4].drop 3).take (Tryz.prog.cellsOf 32)) = some y := hs 3 _ rfl
 obtain ⟨_, t4⟩ : ∃ y, DataW.trod enc Tryz.prog w 0 spare held n 28 (([c0, c1, c2, c3, c4].drop 4).take (Tryz.prog.cellsOf 28)) = some y := hs 4 _ rfl
 simp only [hci, hcs, hc1, hc2, List.drop, List.take] at t0 t1 t2 t3 t4
 obtain ⟨s0, rfl⟩ := int_of t0
 obtain ⟨s1, rfl, h1⟩ := str_of t1
 obtain ⟨s2, rfl, h2⟩ := str_of t2
 obtain ⟨ea, en, ec, ls, rfl, hls, hle⟩ := open_ints t3
 obtain ⟨ra, rn, rc, rs, rfl, hr, hok, hn⟩ := open_RefsR t4
 exact ⟨⟨s0, s1, s2, ea, en, ec, ra, rn, rc, rs⟩, rfl, ⟨hr, hok, by unfold maxLen at h1 h2 hn; exact ⟨h1, h2, hn⟩⟩, by unfold maxLen at hle; exact hle, ls, hls⟩
end
end
section
open Go.RowKit Go.ChangeShapes Go.WideShapes Go.ChangeAt Go.Deep Go.Joins Ru Lay
structure En where
 eid : Int
 fa : Option Addr
 fn : Nat
 fc : Nat
 cls : Int
 aa : Option Addr
 an : Nat
 ac : Nat
 main : Int
 sa : Option Addr
 sn : Nat
 sc : Nat
 la : Option Addr
 ln : Nat
 lc : Nat
 ra : Option Addr
 rn : Nat
 rc : Nat
def encEn (x : En) : List Value := [.int .i64 x.eid, .slice x.fa x.fn x.fc, .int .i64 x.cls, .slice x.aa x.an x.ac, .int .i64 x.main, .slice x.sa x.sn x.sc, .slice x.la x.ln x.lc, .slice x.ra x.rn x.rc]
theorem encEn_len (x : En) : (encEn x).length = 8 := rfl
instance : Inhabited En := ⟨⟨0, none, 0, 0, 0, none, 0, 0, 0, none, 0, 0, none, 0, 0, none, 0, 0⟩⟩
structure Bk where
 da : Option Addr
 dn : Nat
 dc : Nat
 D : List Dc
 ea : Option Addr
 en : Nat
 ec : Nat
 E : List En
 pa : Option Addr
 pn : Nat
 pc : Nat
 L : List Pt
def bookV (x : Bk) : Value := .agg #[.slice x.da x.dn x.dc, .slice x.ea x.en x.ec, .slice x.pa x.pn x.pc]
def EntsR (w : World) (B : Nat) (L : List Pt) : Prop := ∀ p ∈ L, p.en <= 9223372036854775807 /\ ∃ ls : List Int, Reads w B 1 p.ea p.en (ls.map (.int .i64))
theorem EntsR.on {w w' : World} {L : List Pt} (h : EntsR w w.heap.size L) (hb : Below w.heap.size w w') : EntsR w' w'.heap.size L := fun p hp => by
 obtain ⟨h0, ls, h1⟩ := h p hp
 exact ⟨h0, ls, Reads.on h1 hb⟩
structure BkR (w : World) (x : Bk) : Prop where
 docs : DcsR w w.heap.size x.da x.dn x.D
 nn : ∀ y ∈ x.D, y.d.nn <= 9223372036854775807
 lex : RecR encEn 8 w w.heap.size x.ea x.en x.E
 pts : PtsR w w.heap.size x.pa x.pn x.L
 ents : EntsR w w.heap.size x.L
 sizes : x.dn <= 9223372036854775807 /\ x.en <= 9223372036854775807 /\ x.pn <= 9223372036854775807
 cap : x.pn <= x.pc
theorem BkR.on {w w' : World} {x : Bk} (h : BkR w x) (hb : Below w.heap.size w w') : BkR w' x := ⟨h.docs.on hb, h.nn, RecR.on h.lex hb, h.pts.on hb, h.ents.on hb, h.sizes, h.cap⟩
section
variable {H : Type} {enc : TypeId × Value → H} {w : World} {spare : Nat → Bool} {held : Bool} {fuel : Nat} {v : Value} {x : DataW H × List MemPlace}
theorem open_recs {α : Type} [Inhabited α] {f : α -> List Value} {s : Nat} {p : α -> Prop} {t e : TypeId} (hs : 0 < s) (hf : ∀ x, (f x).length = s) (ht : Tryz.prog.underlying t = some (.slice e)) (hce : Tryz.prog.cellsOf e = s)
  (he : ∀ (fuel : Nat) (cs : List Value) (x : DataW H × List MemPlace), cs.length = s -> DataW.trod enc Tryz.prog w 0 spare held fuel e cs = some x -> ∃ y, cs = f y /\ p y)
  (hz : DataW.trod enc Tryz.prog w 0 spare held fuel t [v] = some x) : ∃ A n c l, v = .slice A n c /\ RecR f s w w.heap.size A n l /\ (∀ y ∈ l, p y) /\ n <= maxLen /\ n <= c := by
 rcases open_slice ht hz with ⟨h0, _⟩ | ⟨a, len, cap, m, n, D, Pl, h0, _, hl, hm, hmm, _, hx⟩
 ·injection h0 with h0
  subst h0
  exact ⟨none, 0, 0, [], rfl, RecR.none_, fun _ h => (by cases h), Nat.zero_le _, Nat.le_refl _⟩
 ·injection h0 with h0
  subst h0
  have hlm : len <= m := by rw [hmm]; split <;> omega
  rw [hce] at hx
  obtain ⟨l, hr, hp⟩ := recR_of (w := w) (α := α) (f := f) (s := s) (len := len) (a := a) (p := p) hs hf (fun i hi => by
   obtain ⟨cs, h1, h2⟩ := hx i (by omega)
   obtain ⟨_, hcl, hcc⟩ := World.cells?_some h1
   obtain ⟨y, hy, hyn⟩ := he _ _ _ hcl h2
   refine ⟨y, fun j u hu => ?_, hyn⟩
   rw [<- hy] at hu
   have hj : j < s := by have := (List.getElem?_eq_some_iff.1 hu).1; omega
   have := hcc j (by simpa using hj)
   rw [add_of_add] at this
   rw [this]
   exact hu)
  exact ⟨some a, len, cap, l, rfl, hr, hp, by omega, hl⟩
theorem slice_of {t e : TypeId} {c : Value} (ht : Tryz.prog.underlying t = some (.slice e)) (h : DataW.trod enc Tryz.prog w 0 spare held fuel t [c] = some x) : ∃ A n m, c = .slice A n m := by
 rcases open_slice ht h with ⟨h0, _⟩ | ⟨a, len, cap, m, n, D, Pl, h0, _⟩
 ·injection h0 with h0
  exact ⟨_, _, _, h0⟩
 ·injection h0 with h0
  exact ⟨_, _, _, h0⟩
theorem open_docs (hf : DataW.trod enc Tryz.prog w 0 spare held fuel 48 [v] = some x) : ∃ A n c D, v = .slice A n c /\ DcsR w w.heap.size A n D /\ (∀ y ∈ D, y.d.nn <= 9223372036854775807) /\ n <= maxLen := by
 obtain ⟨A, n, c, D, e, h1, h2, h3, _⟩ := open_recs (α := Dc) (f := encC) (s := 7) (p := fun y => TiersR w w.heap.size y.d.ta y.d.tn y.T /\ NotesR w w.heap.size y.d.na y.d.nn y.l /\ y.d.nn <= 9223372036854775807) (by omega) encC_len Tryz.underlying48 (by kernel_rfl)
  (fun fuel cs x hl h => by
   obtain ⟨c0, c1, c2, c3, c4, c5, c6, rfl⟩ : ∃ c0 c1 c2 c3 c4 c5 c6, cs = [c0, c1, c2, c3, c4, c5, c6] := by
    match cs, hl with
    | [c0, c1, c2, c3, c4, c5, c6], _ => exact ⟨c0, c1, c2, c3, c4, c5, c6, rfl⟩
   obtain ⟨d, T, l, e, hT, hl, hn⟩ := doc_of h
   exact ⟨⟨d, T, l⟩, e, hT, hl, hn⟩) hf
 exact ⟨A, n, c, D, e, ⟨h1, fun y hy => ⟨(h2 y hy).1, (h2 y hy).2.1⟩⟩, fun y hy => (h2 y hy).2.2, h3⟩
theorem entry_of {cs : List Value} (hl : cs.length = 8) (h : DataW.trod enc Tryz.prog w 0 spare held fuel 134 cs = some x) : ∃ y, cs = encEn y := by
 obtain ⟨c0, c1, c2, c3, c4, c5, c6, c7, rfl⟩ : ∃ c0 c1 c2 c3 c4 c5 c6 c7, cs = [c0, c1, c2, c3, c4, c5, c6, c7] := by
  match cs, hl with
  | [c0, c1, c2, c3, c4, c5, c6, c7], _ => exact ⟨c0, c1, c2, c3, c4, c5, c6, c7, rfl⟩
 have k1 : Tryz.prog.cellsOf 3 = 1 := by kernel_rfl
 have k2 : Tryz.prog.cellsOf 32 = 1 := by kernel_rfl
 have k3 : Tryz.prog.cellsOf 130 = 1 := by kernel_rfl
 have k4 : Tryz.prog.cellsOf 131 = 1 := by kernel_rfl
 have k5 : Tryz.prog.cellsOf 132 = 1 := by kernel_rfl
 have k6 : Tryz.prog.cellsOf 28 = 1 := by kernel_rfl
 obtain ⟨n, hs⟩ := trod_fields Tryz.underlying134 h
 obtain ⟨_, t0⟩ : ∃ y, DataW.trod enc Tryz.prog w 0 spare held n 3 (([c0, c1, c2, c3, c4, c5, c6, c7].drop 0).take (Tryz.prog.cellsOf 3)) = some y := hs 0 _ rfl
 obtain ⟨_, t1⟩ : ∃ y, DataW.trod enc Tryz.prog w 0 spare held n 32 (([c0, c1, c2, c3, c4, c5, c6, c7].drop 1).take (Tryz.prog.cellsOf 32)) = some y := hs 1 _ rfl
 obtain ⟨_, t2⟩ : ∃ y, DataW.trod enc Tryz.prog w 0 spare held n 3 (([c0, c1, c2, c3, c4, c5, c6, c7].drop 2).take (Tryz.prog.cellsOf 3)) = some y := hs 2 _ rfl
 obtain ⟨_, t3⟩ : ∃ y, DataW.trod enc Tryz.prog w 0 spare held n 130 (([c0, c1, c2, c3, c4, c5, c6, c7].drop 3).take (Tryz.prog.cellsOf 130)) = some y := hs 3 _ rfl
 obtain ⟨_, t4⟩ : ∃ y, DataW.trod enc Tryz.prog w 0 spare held n 3 (([c0, c1, c2, c3, c4, c5, c6, c7].drop 4).take (Tryz.prog.cellsOf 3)) = some y := hs 4 _ rfl
 obtain ⟨_, t5⟩ : ∃ y, DataW.trod enc Tryz.prog w 0 spare held n 131 (([c0, c1, c2, c3, c4, c5, c6, c7].drop 5).take (Tryz.prog.cellsOf 131)) = some y := hs 5 _ rfl
 obtain ⟨_, t6⟩ : ∃ y, DataW.trod enc Tryz.prog w 0 spare held n 132 (([c0, c1, c2, c3, c4, c5, c6, c7].drop 6).take (Tryz.prog.cellsOf 132)) = some y := hs 6 _ rfl
 obtain ⟨_, t7⟩ : ∃ y, DataW.trod enc Tryz.prog w 0 spare held n 28 (([c0, c1, c2, c3, c4, c5, c6, c7].drop 7).take (Tryz.prog.cellsOf 28)) = some y := hs 7 _ rfl
 simp only [k1, k2, k3, k4, k5, k6, List.drop, List.take] at t0 t1 t2 t3 t4 t5 t6 t7
 obtain ⟨s0, rfl⟩ := int_of t0
 obtain ⟨fa, fn, fc, rfl⟩ := slice_of Tryz.underlying32 t1
 obtain ⟨s2, rfl⟩ := int_of t2
 obtain ⟨aa, an, ac, rfl⟩ := slice_of Tryz.underlying130 t3
 obtain ⟨s4, rfl⟩ := int_of t4
 obtain ⟨sa, sn, sc, rfl⟩ := slice_of Tryz.underlying131 t5
 obtain ⟨la, ln, lc, rfl⟩ := slice_of Tryz.underlying132 t6
 obtain ⟨ra, rn, rc, rfl⟩ := slice_of Tryz.underlying28 t7
 exact ⟨⟨s0, fa, fn, fc, s2, aa, an, ac, s4, sa, sn, sc, la, ln, lc, ra, rn, rc⟩, rfl⟩
theorem open_lex (hf : DataW.trod enc Tryz.prog w 0 spare held fuel 49 [v] = some x) : ∃ A n c l, v = .slice A n c /\ RecR encEn 8 w w.heap.size A n l /\ n <= maxLen := by
 obtain ⟨A, n, c, l, e, h1, _, h3, _⟩ := open_recs (α := En) (f := encEn) (s := 8) (p := fun _ => True) (by omega) encEn_len Tryz.underlying49 (by kernel_rfl) (fun fuel cs x hl h => by
  obtain ⟨y, hy⟩ := entry_of hl h
  exact ⟨y, hy, trivial⟩) hf
 exact ⟨A, n, c, l, e, h1, h3⟩
theorem open_PtsE (hf : DataW.trod enc Tryz.prog w 0 spare held fuel 22 [v] = some x) : ∃ A n c l, v = .slice A n c /\ PtsR w w.heap.size A n l /\ EntsR w w.heap.size l /\ n <= maxLen /\ n <= c := by
 obtain ⟨A, n, c, l, e, h1, h2, h3, h4⟩ := open_recs (α := Pt) (f := encP) (s := 5) (p := fun q => PtR w w.heap.size q /\ q.en <= 9223372036854775807 /\ ∃ ls : List Int, Reads w w.heap.size 1 q.ea q.en (ls.map (.int .i64))) (by omega) encP_len Tryz.underlying22 (by kernel_rfl)
  (fun fuel cs x hl h => by
   obtain ⟨c0, c1, c2, c3, c4, rfl⟩ : ∃ c0 c1 c2 c3 c4, cs = [c0, c1, c2, c3, c4] := by
    match cs, hl with
    | [c0, c1, c2, c3, c4], _ => exact ⟨c0, c1, c2, c3, c4, rfl⟩
   obtain ⟨y, hy, h1, h2⟩ := pointE_of h
   exact ⟨y, hy, h1, h2⟩) hf
 exact ⟨A, n, c, l, e, ⟨h1, fun y hy => (h2 y hy).1⟩, fun y hy => (h2 y hy).2, h3, h4⟩
set_option maxRecDepth 100000 in
theorem open_book {r : Reach} {b0 : Nat} {d : DataW H} {p : List MemPlace} (hv : Value.okWide Tryz.prog w r b0 51 v) (h : DataW.Trod enc Tryz.prog w 0 spare held 51 v d p) :
  ∃ x : Bk, v = bookV x /\ BkR w x := by
 obtain ⟨cs, rfl, hsz⟩ := okWide_struct Tryz.underlying51 hv
 have hce : Tryz.prog.cellsOf 51 = 3 := by kernel_rfl
 obtain ⟨c0, c1, c2, rfl⟩ : ∃ c0 c1 c2, cs = #[c0, c1, c2] := by
  have h2 := hsz.trans hce
  obtain ⟨l⟩ := cs
  match l, h2 with
  | [c0, c1, c2], _ => exact ⟨c0, c1, c2, rfl⟩
 obtain ⟨fuel, hf⟩ := h
 have k0 : Tryz.prog.cellsOf 48 = 1 := by kernel_rfl
 have k1 : Tryz.prog.cellsOf 49 = 1 := by kernel_rfl
 have k2 : Tryz.prog.cellsOf 22 = 1 := by kernel_rfl
 obtain ⟨n, hs⟩ := trod_fields (cs := [c0, c1, c2]) Tryz.underlying51 hf
 obtain ⟨_, t0⟩ : ∃ y, DataW.trod enc Tryz.prog w 0 spare held n 48 (([c0, c1, c2].drop 0).take (Tryz.prog.cellsOf 48)) = some y := hs 0 _ rfl
 obtain ⟨_, t1⟩ : ∃ y, DataW.trod enc Tryz.prog w 0 spare held n 49 (([c0, c1, c2].drop 1).take (Tryz.prog.cellsOf 49)) = some y := hs 1 _ rfl
 obtain ⟨_, t2⟩ : ∃ y, DataW.trod enc Tryz.prog w 0 spare held n 22 (([c0, c1, c2].drop 2).take (Tryz.prog.cellsOf 22)) = some y := hs 2 _ rfl
 simp only [k0, k1, k2, List.drop, List.take] at t0 t1 t2
 obtain ⟨da, dn, dc, D, rfl, hD, hDn, hd⟩ := open_docs t0
 obtain ⟨ea, en, ec, E, rfl, hE, he⟩ := open_lex t1
 obtain ⟨pa, pn, pc, L, rfl, hP, hEn, hp, hpc⟩ := open_PtsE t2
 exact ⟨⟨da, dn, dc, D, ea, en, ec, E, pa, pn, pc, L⟩, rfl, hD, hDn, hE, hP, hEn, by unfold maxLen at hd he hp; exact ⟨hd, he, hp⟩, hpc⟩
end
end
end Go.Proofs.YthcabnfcgjnlnaaGreatDoor
