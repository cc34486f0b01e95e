import Derived.Test.YthcabnfcgjnlnaaGreatDoorLi13
set_option linter.unusedVariables false
set_option linter.unusedSimpArgs false
namespace Go.Proofs.YthcabnfcgjnlnaaGreatDoor
section
open Go.RowKit Go.ChangeShapes Go.WideShapes Go.ChangeAt Go.Deep Go.Joins Ru Lay
structure En where
 eid : Int
 fa : Option Addr
 fn : Nat
 fc : Nat
 cls : Int
 aa : Option Addr
 an : Nat
 ac : Nat
 main : Int
 sa : Option Addr
 sn : Nat
 sc : Nat
 la : Option Addr
 ln : Nat
 lc : Nat
 ra : Option Addr
 rn : Nat
 rc : Nat
def encEn (x : En) : List Value := [.int .i64 x.eid, .slice x.fa x.fn x.fc, .int .i64 x.cls, .slice x.aa x.an x.ac, .int .i64 x.main, .slice x.sa x.sn x.sc, .slice x.la x.ln x.lc, .slice x.ra x.rn x.rc]
theorem encEn_len (x : En) : (encEn x).length = 8 := rfl
instance : Inhabited En := ⟨⟨0, none, 0, 0, 0, none, 0, 0, 0, none, 0, 0, none, 0, 0, none, 0, 0⟩⟩
structure Bk where
 da : Option Addr
 dn : Nat
 dc : Nat
 D : List Dc
 ea : Option Addr
 en : Nat
 ec : Nat
 E : List En
 pa : Option Addr
 pn : Nat
 pc : Nat
 L : List Pt
def bookV (x : Bk) : Value := .agg #[.slice x.da x.dn x.dc, .slice x.ea x.en x.ec, .slice x.pa x.pn x.pc]
def EntsR (w : World) (B : Nat) (L : List Pt) : Prop := ∀ p ∈ L, p.en <= 9223372036854775807 /\ ∃ ls : List Int, Reads w B 1 p.ea p.en (ls.map (.int .i64))
theorem EntsR.on {w w' : World} {L : List Pt} (h : EntsR w w.heap.size L) (hb : Below w.heap.size w w') : EntsR w' w'.heap.size L := fun p hp => by
 obtain ⟨h0, ls, h1⟩ := h p hp;exact ⟨h0, ls, Reads.on h1 hb⟩
structure BkR (w : World) (x : Bk) : Prop where
 docs : DcsR w w.heap.size x.da x.dn x.D
 nn : ∀ y ∈ x.D, y.d.nn <= 9223372036854775807
 lex : RecR encEn 8 w w.heap.size x.ea x.en x.E
 pts : PtsR w w.heap.size x.pa x.pn x.L
 ents : EntsR w w.heap.size x.L
 sizes : x.dn <= 9223372036854775807 /\ x.en <= 9223372036854775807 /\ x.pn <= 9223372036854775807
 cap : x.pn <= x.pc
theorem BkR.on {w w' : World} {x : Bk} (h : BkR w x) (hb : Below w.heap.size w w') : BkR w' x := ⟨h.docs.on hb, h.nn, RecR.on h.lex hb, h.pts.on hb, h.ents.on hb, h.sizes, h.cap⟩
section
variable {H : Type} {enc : TypeId × Value → H} {w : World} {spare : Nat → Bool} {held : Bool} {fuel : Nat} {v : Value} {x : DataW H × List MemPlace}
theorem open_recs {α : Type} [Inhabited α] {f : α -> List Value} {s : Nat} {p : α -> Prop} {t e : TypeId} (hs : 0 < s) (hf : ∀ x, (f x).length = s) (ht : Tryz.prog.underlying t = some (.slice e)) (hce : Tryz.prog.cellsOf e = s)
  (he : ∀ (fuel : Nat) (cs : List Value) (x : DataW H × List MemPlace), cs.length = s -> DataW.trod enc Tryz.prog w 0 spare held fuel e cs = some x -> ∃ y, cs = f y /\ p y)
  (hz : DataW.trod enc Tryz.prog w 0 spare held fuel t [v] = some x) : ∃ A n c l, v = .slice A n c /\ RecR f s w w.heap.size A n l /\ (∀ y ∈ l, p y) /\ n <= maxLen /\ n <= c := by
 rcases open_slice ht hz with ⟨h0, _⟩ | ⟨a, len, cap, m, n, D, Pl, h0, _, hl, hm, hmm, _, hx⟩
 ·injection h0 with h0
  subst h0;exact ⟨none, 0, 0, [], rfl, RecR.none_, fun _ h => (by cases h), Nat.zero_le _, Nat.le_refl _⟩
 ·injection h0 with h0
  subst h0;have hlm : len <= m := by rw [hmm]; split <;> omega
  rw [hce] at hx
  obtain ⟨l, hr, hp⟩ := recR_of (w := w) (α := α) (f := f) (s := s) (len := len) (a := a) (p := p) hs hf (fun i hi => by
   obtain ⟨cs, h1, h2⟩ := hx i (by omega);obtain ⟨_, hcl, hcc⟩ := World.cells?_some h1;obtain ⟨y, hy, hyn⟩ := he _ _ _ hcl h2;refine ⟨y, fun j u hu => ?_, hyn⟩;rw [<- hy] at hu;have hj : j < s := by have := (List.getElem?_eq_some_iff.1 hu).1; omega
   have := hcc j (by simpa using hj);rw [add_of_add] at this;rw [this];exact hu)
  exact ⟨some a, len, cap, l, rfl, hr, hp, by omega, hl⟩
theorem slice_of {t e : TypeId} {c : Value} (ht : Tryz.prog.underlying t = some (.slice e)) (h : DataW.trod enc Tryz.prog w 0 spare held fuel t [c] = some x) : ∃ A n m, c = .slice A n m := by
 rcases open_slice ht h with ⟨h0, _⟩ | ⟨a, len, cap, m, n, D, Pl, h0, _⟩
 ·injection h0 with h0
  exact ⟨_, _, _, h0⟩
 ·injection h0 with h0
  exact ⟨_, _, _, h0⟩
theorem open_docs (hf : DataW.trod enc Tryz.prog w 0 spare held fuel 48 [v] = some x) : ∃ A n c D, v = .slice A n c /\ DcsR w w.heap.size A n D /\ (∀ y ∈ D, y.d.nn <= 9223372036854775807) /\ n <= maxLen := by
 obtain ⟨A, n, c, D, e, h1, h2, h3, _⟩ := open_recs (α := Dc) (f := encC) (s := 7) (p := fun y => TiersR w w.heap.size y.d.ta y.d.tn y.T /\ NotesR w w.heap.size y.d.na y.d.nn y.l /\ y.d.nn <= 9223372036854775807) (by omega) encC_len Tryz.underlying48 (by kernel_rfl)
  (fun fuel cs x hl h => by
   obtain ⟨c0, c1, c2, c3, c4, c5, c6, rfl⟩ : ∃ c0 c1 c2 c3 c4 c5 c6, cs = [c0, c1, c2, c3, c4, c5, c6] := by
    match cs, hl with
    | [c0, c1, c2, c3, c4, c5, c6], _ => exact ⟨c0, c1, c2, c3, c4, c5, c6, rfl⟩
   obtain ⟨d, T, l, e, hT, hl, hn⟩ := doc_of h;exact ⟨⟨d, T, l⟩, e, hT, hl, hn⟩) hf
 exact ⟨A, n, c, D, e, ⟨h1, fun y hy => ⟨(h2 y hy).1, (h2 y hy).2.1⟩⟩, fun y hy => (h2 y hy).2.2, h3⟩
theorem entry_of {cs : List Value} (hl : cs.length = 8) (h : DataW.trod enc Tryz.prog w 0 spare held fuel 134 cs = some x) : ∃ y, cs = encEn y := by
 obtain ⟨c0, c1, c2, c3, c4, c5, c6, c7, rfl⟩ : ∃ c0 c1 c2 c3 c4 c5 c6 c7, cs = [c0, c1, c2, c3, c4, c5, c6, c7] := by
  match cs, hl with
  | [c0, c1, c2, c3, c4, c5, c6, c7], _ => exact ⟨c0, c1, c2, c3, c4, c5, c6, c7, rfl⟩
 have k1 : Tryz.prog.cellsOf 3 = 1 := by kernel_rfl
 have k2 : Tryz.prog.cellsOf 32 = 1 := by kernel_rfl
 have k3 : Tryz.prog.cellsOf 130 = 1 := by kernel_rfl
 have k4 : Tryz.prog.cellsOf 131 = 1 := by kernel_rfl
 have k5 : Tryz.prog.cellsOf 132 = 1 := by kernel_rfl
 have k6 : Tryz.prog.cellsOf 28 = 1 := by kernel_rfl
 obtain ⟨n, hs⟩ := trod_fields Tryz.underlying134 h;obtain ⟨_, t0⟩ : ∃ y, DataW.trod enc Tryz.prog w 0 spare held n 3 (([c0, c1, c2, c3, c4, c5, c6, c7].drop 0).take (Tryz.prog.cellsOf 3)) = some y := hs 0 _ rfl;obtain ⟨_, t1⟩ : ∃ y, DataW.trod enc Tryz.prog w 0 spare held n 32 (([c0, c1, c2, c3, c4, c5, c6, c7].drop 1).take (Tryz.prog.cellsOf 32)) = some y := hs 1 _ rfl;obtain ⟨_, t2⟩ : ∃ y, DataW.trod enc Tryz.prog w 0 spare held n 3 (([c0, c1, c2, c3, c4, c5, c6, c7].drop 2).take (Tryz.prog.cellsOf 3)) = some y := hs 2 _ rfl;obtain ⟨_, t3⟩ : ∃ y, DataW.trod enc Tryz.prog w 0 spare held n 130 (([c0, c1, c2, c3, c4, c5, c6, c7].drop 3).take (Tryz.prog.cellsOf 130)) = some y := hs 3 _ rfl;obtain ⟨_, t4⟩ : ∃ y, DataW.trod enc Tryz.prog w 0 spare held n 3 (([c0, c1, c2, c3, c4, c5, c6, c7].drop 4).take (Tryz.prog.cellsOf 3)) = some y := hs 4 _ rfl;obtain ⟨_, t5⟩ : ∃ y, DataW.trod enc Tryz.prog w 0 spare held n 131 (([c0, c1, c2, c3, c4, c5, c6, c7].drop 5).take (Tryz.prog.cellsOf 131)) = some y := hs 5 _ rfl;obtain ⟨_, t6⟩ : ∃ y, DataW.trod enc Tryz.prog w 0 spare held n 132 (([c0, c1, c2, c3, c4, c5, c6, c7].drop 6).take (Tryz.prog.cellsOf 132)) = some y := hs 6 _ rfl;obtain ⟨_, t7⟩ : ∃ y, DataW.trod enc Tryz.prog w 0 spare held n 28 (([c0, c1, c2, c3, c4, c5, c6, c7].drop 7).take (Tryz.prog.cellsOf 28)) = some y := hs 7 _ rfl;simp only [k1, k2, k3, k4, k5, k6, List.drop, List.take] at t0 t1 t2 t3 t4 t5 t6 t7;obtain ⟨s0, rfl⟩ := int_of t0;obtain ⟨fa, fn, fc, rfl⟩ := slice_of Tryz.underlying32 t1;obtain ⟨s2, rfl⟩ := int_of t2;obtain ⟨aa, an, ac, rfl⟩ := slice_of Tryz.underlying130 t3;obtain ⟨s4, rfl⟩ := int_of t4;obtain ⟨sa, sn, sc, rfl⟩ := slice_of Tryz.underlying131 t5;obtain ⟨la, ln, lc, rfl⟩ := slice_of Tryz.underlying132 t6;obtain ⟨ra, rn, rc, rfl⟩ := slice_of Tryz.underlying28 t7;exact ⟨⟨s0, fa, fn, fc, s2, aa, an, ac, s4, sa, sn, sc, la, ln, lc, ra, rn, rc⟩, rfl⟩
theorem open_lex (hf : DataW.trod enc Tryz.prog w 0 spare held fuel 49 [v] = some x) : ∃ A n c l, v = .slice A n c /\ RecR encEn 8 w w.heap.size A n l /\ n <= maxLen := by
 obtain ⟨A, n, c, l, e, h1, _, h3, _⟩ := open_recs (α := En) (f := encEn) (s := 8) (p := fun _ => True) (by omega) encEn_len Tryz.underlying49 (by kernel_rfl) (fun fuel cs x hl h => by
  obtain ⟨y, hy⟩ := entry_of hl h;exact ⟨y, hy, trivial⟩) hf
 exact ⟨A, n, c, l, e, h1, h3⟩
theorem open_PtsE (hf : DataW.trod enc Tryz.prog w 0 spare held fuel 22 [v] = some x) : ∃ A n c l, v = .slice A n c /\ PtsR w w.heap.size A n l /\ EntsR w w.heap.size l /\ n <= maxLen /\ n <= c := by
 obtain ⟨A, n, c, l, e, h1, h2, h3, h4⟩ := open_recs (α := Pt) (f := encP) (s := 5) (p := fun q => PtR w w.heap.size q /\ q.en <= 9223372036854775807 /\ ∃ ls : List Int, Reads w w.heap.size 1 q.ea q.en (ls.map (.int .i64))) (by omega) encP_len Tryz.underlying22 (by kernel_rfl)
  (fun fuel cs x hl h => by
   obtain ⟨c0, c1, c2, c3, c4, rfl⟩ : ∃ c0 c1 c2 c3 c4, cs = [c0, c1, c2, c3, c4] := by
    match cs, hl with
    | [c0, c1, c2, c3, c4], _ => exact ⟨c0, c1, c2, c3, c4, rfl⟩
   obtain ⟨y, hy, h1, h2⟩ := pointE_of h;exact ⟨y, hy, h1, h2⟩) hf
 exact ⟨A, n, c, l, e, ⟨h1, fun y hy => (h2 y hy).1⟩, fun y hy => (h2 y hy).2, h3, h4⟩
set_option maxRecDepth 100000 in
theorem open_book {r : Reach} {b0 : Nat} {d : DataW H} {p : List MemPlace} (hv : Value.okWide Tryz.prog w r b0 51 v) (h : DataW.Trod enc Tryz.prog w 0 spare held 51 v d p) :
  ∃ x : Bk, v = bookV x /\ BkR w x := by
 obtain ⟨cs, rfl, hsz⟩ := okWide_struct Tryz.underlying51 hv;have hce : Tryz.prog.cellsOf 51 = 3 := by kernel_rfl
 obtain ⟨c0, c1, c2, rfl⟩ : ∃ c0 c1 c2, cs = #[c0, c1, c2] := by
  have h2 := hsz.trans hce;obtain ⟨l⟩ := cs;match l, h2 with
  | [c0, c1, c2], _ => exact ⟨c0, c1, c2, rfl⟩
 obtain ⟨fuel, hf⟩ := h;have k0 : Tryz.prog.cellsOf 48 = 1 := by kernel_rfl
 have k1 : Tryz.prog.cellsOf 49 = 1 := by kernel_rfl
 have k2 : Tryz.prog.cellsOf 22 = 1 := by kernel_rfl
 obtain ⟨n, hs⟩ := trod_fields (cs := [c0, c1, c2]) Tryz.underlying51 hf;obtain ⟨_, t0⟩ : ∃ y, DataW.trod enc Tryz.prog w 0 spare held n 48 (([c0, c1, c2].drop 0).take (Tryz.prog.cellsOf 48)) = some y := hs 0 _ rfl;obtain ⟨_, t1⟩ : ∃ y, DataW.trod enc Tryz.prog w 0 spare held n 49 (([c0, c1, c2].drop 1).take (Tryz.prog.cellsOf 49)) = some y := hs 1 _ rfl;obtain ⟨_, t2⟩ : ∃ y, DataW.trod enc Tryz.prog w 0 spare held n 22 (([c0, c1, c2].drop 2).take (Tryz.prog.cellsOf 22)) = some y := hs 2 _ rfl;simp only [k0, k1, k2, List.drop, List.take] at t0 t1 t2;obtain ⟨da, dn, dc, D, rfl, hD, hDn, hd⟩ := open_docs t0;obtain ⟨ea, en, ec, E, rfl, hE, he⟩ := open_lex t1;obtain ⟨pa, pn, pc, L, rfl, hP, hEn, hp, hpc⟩ := open_PtsE t2;exact ⟨⟨da, dn, dc, D, ea, en, ec, E, pa, pn, pc, L⟩, rfl, hD, hDn, hE, hP, hEn, by unfold maxLen at hd he hp; exact ⟨hd, he, hp⟩, hpc⟩
end
end
section
open Go.RowKit Ru Lay
attribute [local go_sem ↓] Go.wp_at_zero Go.wp_at_succ
def identB (n : Int) : Bool := decide (1 <= n) && decide (n <= 1099511627776)
set_option maxHeartbeats 1000000 in
theorem ident_any (n : Int) (w : World) : Calls Tryz.prog 77 #[.int .i64 n] w fun e w' => e = .returned (.bool (identB n)) /\ w = w' := by
 unfold identB;by_cases h1 : 1 <= n
 ·have d1 : decide (n ≥ 1) = true := decide_eq_true h1;have d2 : decide (1 <= n) = true := decide_eq_true h1;clear h1;rw [d2, Bool.true_and];go_enter Tryz.func77, Tryz.ntmps77
  go_wp2;go_ret;exact ⟨rfl, rfl⟩
 ·have d1 : decide (n ≥ 1) = false := decide_eq_false h1;have d2 : decide (1 <= n) = false := decide_eq_false h1;clear h1;rw [d2, Bool.false_and];go_enter Tryz.func77, Tryz.ntmps77
  go_wp2;go_ret;exact ⟨rfl, rfl⟩
def SomeB (w : World) (e : Ending) (w' : World) : Prop := ∃ b : Bool, e = .returned (.bool b) /\ Below w.heap.size w w'
def SomeN (w : World) (e : Ending) (w' : World) : Prop := ∃ r : Int, e = .returned (.int .i64 r) /\ Below w.heap.size w w'
theorem SomeB.of {w w' : World} {e : Ending} (b : Bool) (h : e = .returned (.bool b)) (hb : Below w.heap.size w w') : SomeB w e w' := ⟨b, h, hb⟩
theorem SomeN.of {w w' : World} {e : Ending} (b : Int) (h : e = .returned (.int .i64 b)) (hb : Below w.heap.size w w') : SomeN w e w' := ⟨b, h, hb⟩
set_option maxHeartbeats 2000000 in
theorem up01_any (A : Option Addr) (n c : Nat) (l : List Int) (w : World) (hl : IR w w.heap.size A n l) (hn : n <= 9223372036854775807) : Calls Tryz.prog 102 #[.slice A n c] w (SomeB w) := by
 have HL := hI hl;clear hl;go_enter Tryz.func102, Tryz.ntmps102
 go_wp2_with fail
 go_loopw [3] (fun v3 wr => ∃ i : Nat, 1 <= i /\ i <= n + 1 /\ v3 = .int .i64 i /\ Hid (Below w.heap.size w wr)) (fun v3 _ => n + 1 - (intOf v3).toNat)
 case atStart => exact ⟨1, by omega, by omega, rfl, Below.refl _ _⟩
 case round =>
  obtain ⟨i, h1, hi, rfl, HB⟩ := hrel;obtain ⟨w2, hw2⟩ : ∃ w2, wr = w2 := ⟨_, rfl⟩;rw [hw2] at HB |-;clear hw2;by_cases hlt : i < n
  ·obtain ⟨k, hk⟩ : ∃ k, i = k + 1 := ⟨i - 1, by omega⟩;have hiz : (i : Int) < (n : Int) := by omega
   have hiA : (0 : Int) <= (i : Int) := by omega
   have hkz : (k : Int) < (n : Int) := by omega
   have hkA : (0 : Int) <= (k : Int) := by omega
   have hwk : IntKind.i64.wrap ((i : Int) - 1) = (k : Int) := by rw [IntKind.wrap_i64]; omega
   obtain ⟨ad, x, hA, hab, hx, hcx⟩ := HL.out.at_ (show k < n by omega);subst hA;obtain ⟨ad2, y, hA2, _, hy, hcy⟩ := HL.out.at_ hlt
   cases hA2;have H1 := hI h1;have HLT := hI hlt;have cx : ∀ p : BW w2, p.at_.cell? (ad.add k) = some (.int .i64 x) := fun p => ((HB.out.trans (p.bel.mono HB.out.size)).cell (by rw [block_of_add]; exact hab)).trans hcx
   have cy : ∀ p : BW w2, p.at_.cell? (ad.add i) = some (.int .i64 y) := fun p => ((HB.out.trans (p.bel.mono HB.out.size)).cell (by rw [block_of_add]; exact hab)).trans hcy
   obtain ⟨g, hg⟩ : ∃ g, decide (x ≥ y) = g := ⟨_, rfl⟩;have hg2 : decide (y <= x) = g := hg;have HK := hI hk;clear hk h1 hlt hx hy hcx hcy;go_wp2_with fail
   refine wp_region_quiet_below (by kernel_rfl) (by kernel_rfl) ?_;repeat (go_big_quiet_step (fail))
   refine wpQuiet_nil ?_;intro w3 hw';have hbw := bw_below hw';have HB3 : Hid (Below w.heap.size w w3) := HB.out.trans (hbw.mono HB.out.size);clear hw' hbw cx cy hwk
   cases g with
   | true =>
    clear hg hg2;go_wp2;go_ret;exact SomeB.of _ rfl HB3.out
   | false =>
    clear hg hg2;go_wp2;go_roundw
    case rel => exact ⟨i + 1, by omega, by have := HLT.out; omega, by go_num, HB3⟩
    case measure => have := HLT.out; simp [intOf]; omega
  ·have hiz : ¬ (i : Int) < (n : Int) := by omega
   go_wp2;go_ret;exact SomeB.of _ rfl HB.out
def refB24 (r : Rf) : Bool := identB r.1 && identB r.2
set_option maxHeartbeats 1000000 in
theorem ref24_any (r1 r2 : Int) (w : World) : Calls Tryz.prog 127 #[.agg #[.int .i64 r1, .int .i64 r2]] w fun e w' => e = .returned (.bool (refB24 (r1, r2))) /\ Below w.heap.size w w' := by
 unfold refB24;have HI := hI fun (n : Int) (W : World) => ident_any n W
 obtain ⟨W0, hW0⟩ : ∃ W0, w.alloc (.cells #[.int .i64 r1, .int .i64 r2] 24) = W0 := ⟨_, rfl⟩;have HB0 : Hid (Below w.heap.size w W0) := by rw [<- hW0]; exact (Below.refl _ w).alloc (Nat.le_refl _) _
 have k0 : W0.cell? ⟨w.heap.size, 0, none⟩ = some (.int .i64 r1) := by rw [<- hW0, World.cell?_alloc_new]; rfl
 have k1 : W0.cell? ⟨w.heap.size, 1, none⟩ = some (.int .i64 r2) := by rw [<- hW0, World.cell?_alloc_new]; rfl
 obtain ⟨b1, hb1⟩ : ∃ b, identB r1 = b := ⟨_, rfl⟩;obtain ⟨b2, hb2⟩ : ∃ b, identB r2 = b := ⟨_, rfl⟩;have H1 : Hid (∀ W, Calls Tryz.prog 77 #[.int .i64 r1] W fun e w' => e = .returned (.bool b1) /\ W = w') := fun W => by rw [<- hb1]; exact HI.out r1 W
 have H2 : Hid (∀ W, Calls Tryz.prog 77 #[.int .i64 r2] W fun e w' => e = .returned (.bool b2) /\ W = w') := fun W => by rw [<- hb2]; exact HI.out r2 W
 show Calls _ _ _ _ fun e w' => e = .returned (.bool (identB r1 && identB r2)) /\ _
 rw [hb1, hb2];clear HI hb1 hb2;go_enter Tryz.func127, Tryz.ntmps127
 go_upto_region 1 with fail
 (try rw [hW0])
 clear hW0;go_wp2_with fail
 refine (H1.out W0).mono ?_;rintro e wx ⟨rfl, rfl⟩
 cases b1 with
 | false =>
  go_wp2;go_ret;exact ⟨rfl, HB0.out⟩
 | true =>
  go_wp2_with fail
  refine (H2.out W0).mono ?_;rintro e wx ⟨rfl, rfl⟩;go_wp2;go_ret;exact ⟨rfl, HB0.out⟩
def precB24 (r s : Rf) : Bool := decide (r.1 < s.1) || (r.1 == s.1 && decide (r.2 < s.2))
set_option maxHeartbeats 2000000 in
theorem prec24_any (r1 r2 s1 s2 : Int) (w : World) : Calls Tryz.prog 128 #[.agg #[.int .i64 r1, .int .i64 r2], .agg #[.int .i64 s1, .int .i64 s2]] w fun e w' => e = .returned (.bool (precB24 (r1, r2) (s1, s2))) /\ Below w.heap.size w w' := by
 have hp : precB24 (r1, r2) (s1, s2) = (decide (r1 < s1) || (r1 == s1 && decide (r2 < s2))) := rfl;rw [hp];clear hp;obtain ⟨b1, hb1⟩ : ∃ b, decide (r1 < s1) = b := ⟨_, rfl⟩;obtain ⟨b2, hb2⟩ : ∃ b, (r1 == s1) = b := ⟨_, rfl⟩;rw [hb1, hb2];obtain ⟨W1, hW1⟩ : ∃ W1, w.alloc (.cells #[.int .i64 r1, .int .i64 r2] 24) = W1 := ⟨_, rfl⟩;have HB1 : Hid (Below w.heap.size w W1) := by rw [<- hW1]; exact (Below.refl _ w).alloc (Nat.le_refl _) _
 have hz1 : W1.heap.size = w.heap.size + 1 := by rw [<- hW1]; simp
 obtain ⟨p1, hp1⟩ : ∃ p1, W1.heap.size = p1 := ⟨_, rfl⟩;obtain ⟨W0, hW0⟩ : ∃ W0, W1.alloc (.cells #[.int .i64 s1, .int .i64 s2] 24) = W0 := ⟨_, rfl⟩;have HB0 : Hid (Below W1.heap.size W1 W0) := by rw [<- hW0]; exact (Below.refl _ W1).alloc (Nat.le_refl _) _
 have k0 : W0.cell? ⟨w.heap.size, 0, none⟩ = some (.int .i64 r1) := by rw [HB0.out.cell (p := ⟨w.heap.size, 0, none⟩) (by show w.heap.size < _; omega), <- hW1, World.cell?_alloc_new]; rfl
 have k1 : W0.cell? ⟨w.heap.size, 1, none⟩ = some (.int .i64 r2) := by rw [HB0.out.cell (p := ⟨w.heap.size, 1, none⟩) (by show w.heap.size < _; omega), <- hW1, World.cell?_alloc_new]; rfl
 have k2 : W0.cell? ⟨p1, 0, none⟩ = some (.int .i64 s1) := by rw [<- hW0, <- hp1, World.cell?_alloc_new]; rfl
 have k3 : W0.cell? ⟨p1, 1, none⟩ = some (.int .i64 s2) := by rw [<- hW0, <- hp1, World.cell?_alloc_new]; rfl
 have HBE : Hid (Below w.heap.size w W0) := HB1.out.trans (HB0.out.mono HB1.out.size);clear hz1 HB0 HB1;go_enter Tryz.func128, Tryz.ntmps128
 go_upto_region 1 with fail
 (try rw [hW1])
 (try rw [hW0])
 (try rw [hp1])
 clear hW1 hW0 hp1
 cases b1 with
 | true =>
  go_wp2;go_ret;exact ⟨rfl, HBE.out⟩
 | false =>
  cases b2 with
  | true =>
   go_wp2;go_ret;exact ⟨rfl, HBE.out⟩
  | false =>
   go_wp2;go_ret;exact ⟨rfl, HBE.out⟩
theorem refsR_two {A : Option Addr} {n : Nat} {l : List Rf} {w : World} (h : RefsR w w.heap.size A n l) {i k : Nat} (hi : i < n) (hk : k < n) : ∃ (ad : Addr) (x y : Rf), A = some ad /\ (∀ W, Below w.heap.size w W -> W.cell? (ad.add (i * 2)) = some (.int .i64 x.1) /\ W.cell? ⟨(ad.add (i * 2)).block, (ad.add (i * 2)).off + 1, none⟩ = some (.int .i64 x.2)) /\
  (∀ W, Below w.heap.size w W -> W.cell? (ad.add (k * 2)) = some (.int .i64 y.1) /\ W.cell? ⟨(ad.add (k * 2)).block, (ad.add (k * 2)).off + 1, none⟩ = some (.int .i64 y.2)) := by
 obtain ⟨ad, x, hA, _, _, hx⟩ := h.at_ hi;obtain ⟨ad2, y, hA2, _, _, hy⟩ := h.at_ hk;subst hA
 cases hA2;exact ⟨ad, x, y, rfl, hx, hy⟩
set_option maxHeartbeats 2000000 in
theorem refs24_any (A : Option Addr) (n c : Nat) (l : List Rf) (K : Int) (w : World) (hl : RefsR w w.heap.size A n l) (hn : n <= 9223372036854775807) : Calls Tryz.prog 104 #[.slice A n c, .int .i64 K] w (SomeN w) := by
 have HL := hI hl;have HRF := hI fun (r1 r2 : Int) (W : World) => ref24_any r1 r2 W
 have HPR := hI fun (r1 r2 s1 s2 : Int) (W : World) => prec24_any r1 r2 s1 s2 W
 clear hl;obtain ⟨gk, hgk⟩ : ∃ g, decide ((n : Int) > K) = g := ⟨_, rfl⟩;have hgk2 : decide (K < (n : Int)) = gk := hgk;go_enter Tryz.func104, Tryz.ntmps104
 go_upto_if 9 with fail
 clear hgk hgk2
 cases gk with
 | true =>
  go_wp2;go_ret;exact SomeN.of _ rfl bR
 | false =>
  go_wp2_with fail
  go_loopw [5] (fun v5 wr => ∃ i : Nat, i <= n /\ v5 = .int .i64 i /\ Hid (Below w.heap.size w wr)) (fun v5 _ => n - (intOf v5).toNat)
  case atStart => exact ⟨0, by omega, rfl, Below.refl _ _⟩
  case round =>
   obtain ⟨i, hi, rfl, HB⟩ := hrel;obtain ⟨w2, hw2⟩ : ∃ w2, wr = w2 := ⟨_, rfl⟩;rw [hw2] at HB |-;clear hw2;by_cases hlt : i < n
   ·obtain ⟨k, hk⟩ : ∃ k, k = i - 1 := ⟨_, rfl⟩;have hiz : (i : Int) < (n : Int) := by omega
    have hiA : (0 : Int) <= (i : Int) := by omega
    have hkz : (k : Int) < (n : Int) := by omega
    have hkA : (0 : Int) <= (k : Int) := by omega
    obtain ⟨ad, x, y, rfl, hx, hy⟩ := refsR_two HL.out hlt (show k < n by omega);obtain ⟨x1, x2⟩ := x;obtain ⟨y1, y2⟩ := y;have HLT := hI hlt;have HX := hI hx;have HY := hI hy;obtain ⟨q0, q1⟩ := hx w2 HB.out;simp only at q0 q1 HX HY;obtain ⟨b, hb⟩ : ∃ b, refB24 (x1, x2) = b := ⟨_, rfl⟩;have H1 := hI (HRF.out x1 x2 w2);rw [hb] at H1;have HK := hI hk;clear hk hlt hx hy hb;go_wp2_with fail
    refine H1.out.mono ?_;rintro e w3 ⟨rfl, hb3⟩;have HB3 : Hid (Below w.heap.size w w3) := HB.out.trans (hb3.mono HB.out.size);clear hb3 q0 q1 H1
    cases b with
    | false =>
     go_wp2;go_ret;exact SomeN.of _ rfl HB3.out
    | true =>
     have c0 : ∀ p : BW w3, p.at_.cell? (ad.add (i * 2)) = some (.int .i64 x1) := fun p => (HX.out p.at_ (HB3.out.trans (p.bel.mono HB3.out.size))).1
     have c1 : ∀ p : BW w3, p.at_.cell? ⟨(ad.add (i * 2)).block, (ad.add (i * 2)).off + 1, none⟩ = some (.int .i64 x2) := fun p => (HX.out p.at_ (HB3.out.trans (p.bel.mono HB3.out.size))).2
     have c2 : ∀ p : BW w3, p.at_.cell? (ad.add (k * 2)) = some (.int .i64 y1) := fun p => (HY.out p.at_ (HB3.out.trans (p.bel.mono HB3.out.size))).1
     have c3 : ∀ p : BW w3, p.at_.cell? ⟨(ad.add (k * 2)).block, (ad.add (k * 2)).off + 1, none⟩ = some (.int .i64 y2) := fun p => (HY.out p.at_ (HB3.out.trans (p.bel.mono HB3.out.size))).2
     by_cases h0 : 0 < i
     ·have d0 : decide (0 < i) = true := decide_eq_true h0;have hwk : IntKind.i64.wrap ((i : Int) - 1) = (k : Int) := by have := HK.out; rw [IntKind.wrap_i64]; omega
      clear h0;go_wp2_with fail
      refine wp_region_quiet_below (by kernel_rfl) (by kernel_rfl) ?_;repeat (go_big_quiet_step ((go_at_call 128; exact below_quiet (HPR.out _ _ _ _ _))))
      refine wpQuiet_nil ?_;intro w4 hw';have hbw := bw_below hw';have HB4 : Hid (Below w.heap.size w w4) := HB3.out.trans (hbw.mono HB3.out.size);clear hw' hbw c0 c1 c2 c3 hwk d0;obtain ⟨g, hg⟩ : ∃ g, precB24 (y1, y2) (x1, x2) = g := ⟨_, rfl⟩;(try rw [hg])
      clear hg
      cases g with
      | false =>
       go_wp2;go_ret;exact SomeN.of _ rfl HB4.out
      | true =>
       go_wp2;go_roundw
       case rel => exact ⟨i + 1, HLT.out, by go_num, HB4⟩
       case measure => have := HLT.out; simp [intOf]; omega
     ·have d0 : decide (0 < i) = false := decide_eq_false h0;clear h0;go_wp2_with fail
      refine wp_region_quiet_below (by kernel_rfl) (by kernel_rfl) ?_;repeat (go_big_quiet_step (fail))
      refine wpQuiet_nil ?_;intro w4 hw';have hbw := bw_below hw';have HB4 : Hid (Below w.heap.size w w4) := HB3.out.trans (hbw.mono HB3.out.size);clear hw' hbw c0 c1 c2 c3 d0;go_wp2;go_roundw
      case rel => exact ⟨i + 1, HLT.out, by go_num, HB4⟩
      case measure => have := HLT.out; simp [intOf]; omega
   ·have hiz : ¬ (i : Int) < (n : Int) := by omega
    go_wp2;go_ret;exact SomeN.of _ rfl HB.out
def enV (y : En) : Value := .agg #[.int .i64 y.eid, .slice y.fa y.fn y.fc, .int .i64 y.cls, .slice y.aa y.an y.ac, .int .i64 y.main, .slice y.sa y.sn y.sc, .slice y.la y.ln y.lc, .slice y.ra y.rn y.rc]
def GetP (w : World) (e : Ending) (w' : World) : Prop := ∃ (y : En) (b : Bool), e = .returned (.tuple #[enV y, .bool b]) /\ Below w.heap.size w w'
theorem exs_at {A : Option Addr} {n k : Nat} {E : List En} {w : World} (h : RecR encEn 8 w w.heap.size A n E) (hk : k < n) : ∃ (ad : Addr) (y : En), A = some ad /\ ∀ W, Below w.heap.size w W ->
  W.cell? (ad.add (k * 8)) = some (.int .i64 y.eid) /\ W.cell? ⟨(ad.add (k * 8)).block, (ad.add (k * 8)).off + 1, none⟩ = some (.slice y.fa y.fn y.fc) /\ W.cell? ⟨(ad.add (k * 8)).block, (ad.add (k * 8)).off + 2, none⟩ = some (.int .i64 y.cls) /\
  W.cell? ⟨(ad.add (k * 8)).block, (ad.add (k * 8)).off + 3, none⟩ = some (.slice y.aa y.an y.ac) /\ W.cell? ⟨(ad.add (k * 8)).block, (ad.add (k * 8)).off + 4, none⟩ = some (.int .i64 y.main) /\ W.cell? ⟨(ad.add (k * 8)).block, (ad.add (k * 8)).off + 5, none⟩ = some (.slice y.sa y.sn y.sc) /\
  W.cell? ⟨(ad.add (k * 8)).block, (ad.add (k * 8)).off + 6, none⟩ = some (.slice y.la y.ln y.lc) /\ W.cell? ⟨(ad.add (k * 8)).block, (ad.add (k * 8)).off + 7, none⟩ = some (.slice y.ra y.rn y.rc) := by
 obtain ⟨ad, y, e, _, hx, _, _⟩ := RecR.at_ encEn_len (by omega) h hk;refine ⟨ad, y, e, fun W hW => ?_⟩;obtain ⟨ad', y', e', _, hx', h0, hj⟩ := RecR.at_ encEn_len (by omega) (RecR.below h hW) hk;rw [e] at e'
 cases e'
 rw [hx] at hx'
 cases hx'
 exact ⟨h0 _ rfl, hj 1 _ (by omega) rfl, hj 2 _ (by omega) rfl, hj 3 _ (by omega) rfl, hj 4 _ (by omega) rfl, hj 5 _ (by omega) rfl, hj 6 _ (by omega) rfl, hj 7 _ (by omega) rfl⟩
set_option maxHeartbeats 4000000 in
set_option maxRecDepth 100000 in
theorem get25_any (A : Option Addr) (n c : Nat) (E : List En) (id : Int) (w : World) (hE : RecR encEn 8 w w.heap.size A n E) (hn : n <= 9223372036854775807) : Calls Tryz.prog 103 #[.slice A n c, .int .i64 id] w (GetP w) := by
 have HL := hI hE;clear hE;go_enter Tryz.func103, Tryz.ntmps103
 go_wp2_with fail
 obtain ⟨W0, hW0⟩ : ∃ W0, w.alloc (.cells #[.int .i64 0, .slice none 0 0, .int .i64 0, .slice none 0 0, .int .i64 0, .slice none 0 0, .slice none 0 0, .slice none 0 0] 134) = W0 := ⟨_, rfl⟩;have HB : Hid (Below w.heap.size w W0) := by rw [<- hW0]; exact (Below.refl _ w).alloc (Nat.le_refl _) _
 have hz0 : W0.heap.size = w.heap.size + 1 := by rw [<- hW0]; simp
 have HTH : Hid (W0.there w.heap.size 0 8) := by
  have h := there_new w #[.int .i64 0, .slice none 0 0, .int .i64 0, .slice none 0 0, .int .i64 0, .slice none 0 0, .slice none 0 0, .slice none 0 0] 134;rw [hW0] at h;exact h
 have HRG : Hid (W0.rangeAt w.heap.size 0 [.int .i64 0, .slice none 0 0, .int .i64 0, .slice none 0 0, .int .i64 0, .slice none 0 0, .slice none 0 0, .slice none 0 0]) := fun j v hv => by
  rw [<- hW0, Nat.zero_add, World.cell?_alloc_new, <- hv, <- List.getElem?_toArray]
 (try rw [hW0])
 clear hW0;go_loopw [6, 9] (fun v6 v9 wr => ∃ i : Nat, i <= n /\ v9 = .int .i64 i /\ Hid (Below W0.heap.size W0 wr)) (fun _ v9 _ => n - (intOf v9).toNat)
 case atStart => exact ⟨0, Nat.zero_le _, rfl, Below.refl _ _⟩
 case round =>
  obtain ⟨i, hi, rfl, HB0⟩ := hrel;have hsz := HB0.out.size;have HTW := hI (there_below HB0.out (by omega) HTH.out);have HRW := hI (range_below HB0.out (by omega) HRG.out);have c0 : wr.cell? ⟨w.heap.size, 0, none⟩ = some (.int .i64 0) := HRW.out 0 (.int .i64 0) rfl;have f0 : wr.frozen? ⟨w.heap.size, 0, none⟩ = false := (HTW.out 0 (by omega)).2;have c1 : wr.cell? ⟨w.heap.size, 1, none⟩ = some (.slice none 0 0) := HRW.out 1 (.slice none 0 0) rfl;have f1 : wr.frozen? ⟨w.heap.size, 1, none⟩ = false := (HTW.out 1 (by omega)).2;have c2 : wr.cell? ⟨w.heap.size, 2, none⟩ = some (.int .i64 0) := HRW.out 2 (.int .i64 0) rfl;have f2 : wr.frozen? ⟨w.heap.size, 2, none⟩ = false := (HTW.out 2 (by omega)).2;have c3 : wr.cell? ⟨w.heap.size, 3, none⟩ = some (.slice none 0 0) := HRW.out 3 (.slice none 0 0) rfl;have f3 : wr.frozen? ⟨w.heap.size, 3, none⟩ = false := (HTW.out 3 (by omega)).2;have c4 : wr.cell? ⟨w.heap.size, 4, none⟩ = some (.int .i64 0) := HRW.out 4 (.int .i64 0) rfl;have f4 : wr.frozen? ⟨w.heap.size, 4, none⟩ = false := (HTW.out 4 (by omega)).2;have c5 : wr.cell? ⟨w.heap.size, 5, none⟩ = some (.slice none 0 0) := HRW.out 5 (.slice none 0 0) rfl;have f5 : wr.frozen? ⟨w.heap.size, 5, none⟩ = false := (HTW.out 5 (by omega)).2;have c6 : wr.cell? ⟨w.heap.size, 6, none⟩ = some (.slice none 0 0) := HRW.out 6 (.slice none 0 0) rfl;have f6 : wr.frozen? ⟨w.heap.size, 6, none⟩ = false := (HTW.out 6 (by omega)).2;have c7 : wr.cell? ⟨w.heap.size, 7, none⟩ = some (.slice none 0 0) := HRW.out 7 (.slice none 0 0) rfl;have f7 : wr.frozen? ⟨w.heap.size, 7, none⟩ = false := (HTW.out 7 (by omega)).2;by_cases hlt : i < n
  ·have hiz : (i : Int) < (n : Int) := by omega
   have hiA : (0 : Int) <= (i : Int) := by omega
   obtain ⟨ad, y, rfl, hcells⟩ := exs_at HL.out hlt;obtain ⟨q0, q1, q2, q3, q4, q5, q6, q7⟩ := hcells wr (HB.out.trans (HB0.out.mono HB.out.size));have HI := hI hlt;clear hcells hlt;obtain ⟨b, hb⟩ : ∃ b, (y.eid == id) = b := ⟨_, rfl⟩
   cases b with
   | true =>
    go_wp2;(try simp only [Exit.inBlock, Exit.then])
    refine bodyPost_ret (v := .tuple #[enV y, .bool true]) ?_ rfl ⟨y, true, rfl, ?_⟩
    ·refine results_cell_of rfl _ _ w.heap.size [.int .i64 y.eid, .slice y.fa y.fn y.fc, .int .i64 y.cls, .slice y.aa y.an y.ac, .int .i64 y.main, .slice y.sa y.sn y.sc, .slice y.la y.ln y.lc, .slice y.ra y.rn y.rc] _ _ ?_ ?_ ?_ Tryz.underlying134 rfl (by kernel_rfl)
     ·rfl
     ·rfl
     ·exact World.rangeAt_setCells_same wr w.heap.size 0 [.int .i64 y.eid, .slice y.fa y.fn y.fc, .int .i64 y.cls, .slice y.aa y.an y.ac, .int .i64 y.main, .slice y.sa y.sn y.sc, .slice y.la y.ln y.lc, .slice y.ra y.rn y.rc] HTW.out
    ·exact below_set (w := wr) (b := w.heap.size) (o := 0) (vs := [.int .i64 y.eid, .slice y.fa y.fn y.fc, .int .i64 y.cls, .slice y.aa y.an y.ac, .int .i64 y.main, .slice y.sa y.sn y.sc, .slice y.la y.ln y.lc, .slice y.ra y.rn y.rc]) (HB.out.trans (HB0.out.mono HB.out.size)) (Nat.le_refl _) (by omega)
   | false =>
    clear HTW HRW c0 f0 c1 f1 c2 f2 c3 f3 c4 f4 c5 f5 c6 f6 c7 f7;go_wp2;go_roundw
    case rel => exact ⟨i + 1, HI.out, by go_num, HB0⟩
    case measure => have := HI.out; simp [intOf]; omega
  ·have hiz : ¬ (i : Int) < (n : Int) := by omega
   go_wp2;(try simp only [Exit.inBlock, Exit.then])
   refine bodyPost_ret (v := .tuple #[enV ⟨0, none, 0, 0, 0, none, 0, 0, 0, none, 0, 0, none, 0, 0, none, 0, 0⟩, .bool false]) ?_ rfl ⟨_, false, rfl, ?_⟩
   ·refine results_cell_of rfl _ _ w.heap.size [.int .i64 0, .slice none 0 0, .int .i64 0, .slice none 0 0, .int .i64 0, .slice none 0 0, .slice none 0 0, .slice none 0 0] _ _ ?_ ?_ ?_ Tryz.underlying134 rfl (by kernel_rfl)
    ·rfl
    ·rfl
    ·exact World.rangeAt_setCells_same wr w.heap.size 0 [.int .i64 0, .slice none 0 0, .int .i64 0, .slice none 0 0, .int .i64 0, .slice none 0 0, .slice none 0 0, .slice none 0 0] HTW.out
   ·exact below_set (w := wr) (b := w.heap.size) (o := 0) (vs := [.int .i64 0, .slice none 0 0, .int .i64 0, .slice none 0 0, .int .i64 0, .slice none 0 0, .slice none 0 0, .slice none 0 0]) (HB.out.trans (HB0.out.mono HB.out.size)) (Nat.le_refl _) (by omega)
def ptV (p : Pt) : Value := .agg #[.int .i64 p.pid, .string p.title, .string p.text, .slice p.ea p.en p.ec, .slice p.ra p.rn p.rc]
set_option maxHeartbeats 4000000 in
set_option maxRecDepth 100000 in
theorem point47_any (A : Option Addr) (n c : Nat) (E : List En) (p : Pt) (ls : List Int) (w : World) (hE : RecR encEn 8 w w.heap.size A n E) (hn : n <= 9223372036854775807) (hp : PtR w w.heap.size p) (hl : IR w w.heap.size p.ea p.en ls) (hen : p.en <= 9223372036854775807)
  (hts : p.title.size <= 1099511627776) (hrn : p.rn <= 9223372036854775807) : Calls Tryz.prog 78 #[.slice A n c, ptV p] w (SomeN w) := by
 have HLB := hI fun (W : World) => label10_any p.title W hts
 have HTX := hI fun (W : World) => text12_any p.text W
 have HUP := hI fun (W : World) (hW : Below w.heap.size w W) => up01_any p.ea p.en p.ec ls W (Reads.on hl hW) hen
 have HGT := hI fun (W : World) (hW : Below w.heap.size w W) (id : Int) => get25_any A n c E id W (RecR.on hE hW) hn
 have HRS := hI fun (W : World) (hW : Below w.heap.size w W) => refs24_any p.ra p.rn p.rc p.refs 12 W (hp.refs.on hW) hrn
 have HIL := hI hl;clear hE hp hl;unfold ptV;obtain ⟨pid, title, text, ea, en, ec, ra, rn, rc, refs⟩ := p;simp only at HLB HTX HUP HRS HIL hen hts hrn |-;obtain ⟨W0, hW0⟩ : ∃ W0, w.alloc (.cells #[.int .i64 pid, .string title, .string text, .slice ea en ec, .slice ra rn rc] 65) = W0 := ⟨_, rfl⟩;have HB : Hid (Below w.heap.size w W0) := by rw [<- hW0]; exact (Below.refl _ w).alloc (Nat.le_refl _) _
 have hz0 : W0.heap.size = w.heap.size + 1 := by rw [<- hW0]; simp
 have HK : Hid (∀ W, Below W0.heap.size W0 W -> W.rangeAt w.heap.size 0 [.int .i64 pid, .string title, .string text, .slice ea en ec, .slice ra rn rc]) := fun W hW j v hv => by
  rw [hW.cell (p := ⟨w.heap.size, 0 + j, none⟩) (by show w.heap.size < _; omega), <- hW0, Nat.zero_add, World.cell?_alloc_new, <- hv, <- List.getElem?_toArray]
 have k1 : W0.cell? ⟨w.heap.size, 1, none⟩ = some (.string title) := HK.out W0 bR 1 _ rfl;obtain ⟨lb, hlb⟩ : ∃ b, Ok.labelB title.data.toList = b := ⟨_, rfl⟩;rw [hlb] at HLB;clear hlb;go_enter Tryz.func78, Tryz.ntmps78
 go_upto_region 1 with fail
 (try rw [hW0])
 clear hW0;go_wp2_with fail
 refine (HLB.out W0).mono ?_;rintro e w1 ⟨rfl, hb1⟩;have HB1 := hI hb1;clear hb1 k1 HLB
 cases lb with
 | false =>
  go_wp2;go_ret;exact SomeN.of _ rfl (HB.out.trans (HB1.out.mono HB.out.size))
 | true =>
  have k2 : w1.cell? ⟨w.heap.size, 2, none⟩ = some (.string text) := HK.out w1 HB1.out 2 _ rfl;go_wp2_with fail
  refine (HTX.out w1).mono ?_;rintro e w2 ⟨r, rfl, _, hb2⟩;have HB2 : Hid (Below W0.heap.size W0 w2) := HB1.out.trans (hb2.mono HB1.out.size);obtain ⟨z, hz⟩ : ∃ z, (r != 0) = z := ⟨_, rfl⟩;clear hb2 k2 HTX;go_upto_if 17 with fail
  (try clear hz)
  cases z with
  | true =>
   go_wp2;go_ret;exact SomeN.of _ rfl (HB.out.trans (HB2.out.mono HB.out.size))
  | false =>
   have k3 : w2.cell? ⟨w.heap.size, 3, none⟩ = some (.slice ea en ec) := HK.out w2 HB2.out 3 _ rfl;have HU2 := hI (HUP.out w2 (HB.out.trans (HB2.out.mono HB.out.size)));go_wp2_with fail
   refine HU2.out.mono ?_;rintro e w3 ⟨ub, rfl, hb3⟩;have HB3 : Hid (Below W0.heap.size W0 w3) := HB2.out.trans (hb3.mono HB2.out.size);clear hb3 k3 HU2 HUP
   cases ub with
   | false =>
    go_wp2;go_ret;exact SomeN.of _ rfl (HB.out.trans (HB3.out.mono HB.out.size))
   | true =>
    go_wp2_with fail
    go_loopw [6, 7, 8] (fun v6 v7 v8 wr => ∃ i : Nat, i <= en /\ v6 = .int .i64 i /\ Hid (Below W0.heap.size W0 wr)) (fun v6 _ _ _ => en - (intOf v6).toNat)
    case atStart => exact ⟨0, Nat.zero_le _, rfl, HB3.out⟩
    case round =>
     obtain ⟨i, hi, rfl, HB4⟩ := hrel;obtain ⟨w4, hw4⟩ : ∃ w4, wr = w4 := ⟨_, rfl⟩;rw [hw4] at HB4 |-;clear hw4;have k3 : w4.cell? ⟨w.heap.size, 3, none⟩ = some (.slice ea en ec) := HK.out w4 HB4.out 3 _ rfl;have k4 : w4.cell? ⟨w.heap.size, 4, none⟩ = some (.slice ra rn rc) := HK.out w4 HB4.out 4 _ rfl;by_cases hlt : i < en
     ·have hiz : (i : Int) < (en : Int) := by omega
      have hiA : (0 : Int) <= (i : Int) := by omega
      obtain ⟨ad, x, hA, hab, hx, hcx⟩ := HIL.out.at_ hlt;subst hA;have q0 : w4.cell? (ad.add i) = some (.int .i64 x) := ((HB.out.trans (HB4.out.mono HB.out.size)).cell (by rw [block_of_add]; exact hab)).trans hcx;have HLT := hI hlt;have HG4 := hI (HGT.out w4 (HB.out.trans (HB4.out.mono HB.out.size)) x);clear hlt hx hcx;go_wp2_with fail
      refine HG4.out.mono ?_;rintro e w5 ⟨y, ok, rfl, hb5⟩;unfold enV;have HB5 : Hid (Below W0.heap.size W0 w5) := HB4.out.trans (hb5.mono HB4.out.size);have HB6 : Hid (Below W0.heap.size W0 (w5.alloc (.cells #[.int .i64 y.eid, .slice y.fa y.fn y.fc, .int .i64 y.cls, .slice y.aa y.an y.ac, .int .i64 y.main, .slice y.sa y.sn y.sc, .slice y.la y.ln y.lc, .slice y.ra y.rn y.rc] 134))) := HB5.out.alloc HB5.out.size _;clear hb5 k3 k4 q0 HG4
      cases ok with
      | false =>
       go_wp2;go_ret;exact SomeN.of _ rfl (HB.out.trans (HB6.out.mono HB.out.size))
      | true =>
       go_wp2;go_roundw
       case rel => exact ⟨i + 1, HLT.out, by go_num, HB6⟩
       case measure => have := HLT.out; simp [intOf]; omega
     ·have hiz : ¬ (i : Int) < (en : Int) := by omega
      have HR4 := hI (HRS.out w4 (HB.out.trans (HB4.out.mono HB.out.size)));by_cases h0 : rn = 0
      ·subst h0;go_wp2;go_ret;exact SomeN.of _ rfl (HB.out.trans (HB4.out.mono HB.out.size))
      ·have e0 : ((rn : Int) == 0) = false := beq_eq_false_iff_ne.2 (by omega);have e1 : (rn == 0) = false := beq_eq_false_iff_ne.2 h0;by_cases h12 : 12 < rn
       ·have d0 : decide ((rn : Int) > 12) = true := decide_eq_true (by omega);have d1 : decide (12 < rn) = true := decide_eq_true h12;have d2 : decide ((12 : Int) < (rn : Int)) = true := decide_eq_true (by omega);clear h0 h12;go_wp2;go_ret;exact SomeN.of _ rfl (HB.out.trans (HB4.out.mono HB.out.size))
       ·have d0 : decide ((rn : Int) > 12) = false := decide_eq_false (by omega);have d1 : decide (12 < rn) = false := decide_eq_false h12;have d2 : decide ((12 : Int) < (rn : Int)) = false := decide_eq_false (by omega);clear h0 h12;go_wp2_with fail
        refine HR4.out.mono ?_;rintro e w5 ⟨r2, rfl, hb5⟩;have HB5 : Hid (Below W0.heap.size W0 w5) := HB4.out.trans (hb5.mono HB4.out.size);clear hb5;go_wp2;go_ret;exact SomeN.of _ rfl (HB.out.trans (HB5.out.mono HB.out.size))
theorem pts_two {A : Option Addr} {n : Nat} {L : List Pt} {w : World} (h : PtsR w w.heap.size A n L) {i k : Nat} (hi : i < n) (hk : k < n) : ∃ (ad : Addr) (x y : Pt), A = some ad /\ x ∈ L /\ PtR w w.heap.size x /\
  (∀ W, Below w.heap.size w W -> W.cell? (ad.add (i * 5)) = some (.int .i64 x.pid) /\ W.cell? ⟨(ad.add (i * 5)).block, (ad.add (i * 5)).off + 1, none⟩ = some (.string x.title) /\
   W.cell? ⟨(ad.add (i * 5)).block, (ad.add (i * 5)).off + 2, none⟩ = some (.string x.text) /\ W.cell? ⟨(ad.add (i * 5)).block, (ad.add (i * 5)).off + 3, none⟩ = some (.slice x.ea x.en x.ec) /\
   W.cell? ⟨(ad.add (i * 5)).block, (ad.add (i * 5)).off + 4, none⟩ = some (.slice x.ra x.rn x.rc)) /\ (∀ W, Below w.heap.size w W -> W.cell? (ad.add (k * 5)) = some (.int .i64 y.pid)) := by
 obtain ⟨ad, x, hA, _, hx, hpr, hc⟩ := h.at_ hi;obtain ⟨ad2, y, hA2, _, _, _, hd⟩ := h.at_ hk;subst hA
 cases hA2;exact ⟨ad, x, y, rfl, List.mem_of_getElem? hx, hpr, hc, fun W hW => (hd W hW).1⟩
theorem PtR.on {w w' : World} {p : Pt} (h : PtR w w.heap.size p) (hb : Below w.heap.size w w') : PtR w' w'.heap.size p := (h.below hb).more hb.size
set_option maxHeartbeats 4000000 in
set_option maxRecDepth 100000 in
theorem points47_any (A : Option Addr) (n c : Nat) (E : List En) (A2 : Option Addr) (m c2 : Nat) (L : List Pt) (w : World) (hE : RecR encEn 8 w w.heap.size A n E) (hn : n <= 9223372036854775807) (hP : PtsR w w.heap.size A2 m L) (hm : m <= 9223372036854775807)
  (hl : EntsR w w.heap.size L) (hts : ∀ p ∈ L, p.title.size <= 1099511627776 /\ p.rn <= 9223372036854775807) : Calls Tryz.prog 48 #[.slice A n c, .slice A2 m c2] w (SomeN w) := by
 have HPT := hI fun (p : Pt) (hp : p ∈ L) (hpr : PtR w w.heap.size p) (W : World) (hW : Below w.heap.size w W) => (hl p hp).2.elim fun ls h => point47_any A n c E p ls W (RecR.on hE hW) hn (hpr.on hW) (Reads.on h hW) (hl p hp).1 (hts p hp).1 (hts p hp).2
 have HL := hI hP;have HID := hI fun (n : Int) (W : World) => ident_any n W
 clear hE hP hl hts;obtain ⟨gm, hgm⟩ : ∃ g, decide ((m : Int) > 40) = g := ⟨_, rfl⟩;have hgm2 : decide ((40 : Int) < (m : Int)) = gm := hgm;have hgm3 : decide (40 < m) = gm := by rw [<- hgm]; exact decide_eq_decide.2 (by omega)
 go_enter Tryz.func48, Tryz.ntmps48
 go_upto_if 9 with fail
 clear hgm hgm2 hgm3
 cases gm with
 | true =>
  go_wp2;go_ret;exact SomeN.of _ rfl bR
 | false =>
  go_wp2_with fail
  go_loopw [5, 6] (fun v5 v6 wr => ∃ i : Nat, i <= m /\ v5 = .int .i64 i /\ Hid (Below w.heap.size w wr)) (fun v5 _ _ => m - (intOf v5).toNat)
  case atStart => exact ⟨0, by omega, rfl, Below.refl _ _⟩
  case round =>
   obtain ⟨i, hi, rfl, HB⟩ := hrel;obtain ⟨w2, hw2⟩ : ∃ w2, wr = w2 := ⟨_, rfl⟩;rw [hw2] at HB |-;clear hw2;by_cases hlt : i < m
   ·obtain ⟨k, hk⟩ : ∃ k, k = i - 1 := ⟨_, rfl⟩;have hiz : (i : Int) < (m : Int) := by omega
    have hiA : (0 : Int) <= (i : Int) := by omega
    have hkz : (k : Int) < (m : Int) := by omega
    have hkA : (0 : Int) <= (k : Int) := by omega
    obtain ⟨ad, x, y, rfl, hxm, hpr, hx, hy⟩ := pts_two HL.out hlt (show k < m by omega);have HCP := hI (HPT.out x hxm hpr);unfold ptV at HCP;have HLT := hI hlt;have HX := hI hx;have HY := hI hy;obtain ⟨q0, q1, q2, q3, q4⟩ := hx w2 HB.out;obtain ⟨b, hb⟩ : ∃ b, identB x.pid = b := ⟨_, rfl⟩;have H1 := hI (HID.out x.pid w2);rw [hb] at H1;have HK := hI hk;clear hk hlt hx hy hb hxm hpr;go_wp2_with fail
    refine H1.out.mono ?_;rintro e wx ⟨rfl, rfl⟩;clear q0 q1 q2 q3 q4 H1
    cases b with
    | false =>
     go_wp2;go_ret;exact SomeN.of _ rfl HB.out
    | true =>
     have c0 : ∀ p : BW w2, p.at_.cell? (ad.add (i * 5)) = some (.int .i64 x.pid) := fun p => (HX.out p.at_ (HB.out.trans (p.bel.mono HB.out.size))).1
     have c2 : ∀ p : BW w2, p.at_.cell? (ad.add (k * 5)) = some (.int .i64 y.pid) := fun p => HY.out p.at_ (HB.out.trans (p.bel.mono HB.out.size))
     obtain ⟨g, hg⟩ : ∃ g, decide (x.pid <= y.pid) = g := ⟨_, rfl⟩;by_cases h0 : 0 < i
     ·have d0 : decide (0 < i) = true := decide_eq_true h0;have hwk : IntKind.i64.wrap ((i : Int) - 1) = (k : Int) := by have := HK.out; rw [IntKind.wrap_i64]; omega
      clear h0;go_wp2_with fail
      refine wp_region_quiet_below (by kernel_rfl) (by kernel_rfl) ?_;repeat (go_big_quiet_step (fail))
      refine wpQuiet_nil ?_;intro w4 hw';have hbw := bw_below hw';have HB4 : Hid (Below w.heap.size w w4) := HB.out.trans (hbw.mono HB.out.size);clear hw' hbw c0 c2 hwk d0 hg
      cases g with
      | true =>
       go_wp2;go_ret;exact SomeN.of _ rfl HB4.out
      | false =>
       obtain ⟨q0, q1, q2, q3, q4⟩ := HX.out w4 HB4.out;have HC4 := hI (HCP.out w4 HB4.out);go_wp2_with fail
       refine HC4.out.mono ?_;rintro e w5 ⟨r, rfl, hb5⟩;have HB5 : Hid (Below w.heap.size w w5) := HB4.out.trans (hb5.mono HB4.out.size);obtain ⟨z, hz⟩ : ∃ z, (r != 0) = z := ⟨_, rfl⟩;clear hb5 q0 q1 q2 q3 q4 HC4;go_upto_if 46 with fail
       (try clear hz)
       cases z with
       | true =>
        go_wp2;go_ret;exact SomeN.of _ rfl HB5.out
       | false =>
        go_wp2;go_roundw
        case rel => exact ⟨i + 1, HLT.out, by go_num, HB5⟩
        case measure => have := HLT.out; simp [intOf]; omega
     ·have d0 : decide (0 < i) = false := decide_eq_false h0;clear h0;go_wp2_with fail
      refine wp_region_quiet_below (by kernel_rfl) (by kernel_rfl) ?_;repeat (go_big_quiet_step (fail))
      refine wpQuiet_nil ?_;intro w4 hw';have hbw := bw_below hw';have HB4 : Hid (Below w.heap.size w w4) := HB.out.trans (hbw.mono HB.out.size);clear hw' hbw c0 c2 d0 hg;obtain ⟨q0, q1, q2, q3, q4⟩ := HX.out w4 HB4.out;have HC4 := hI (HCP.out w4 HB4.out);go_wp2_with fail
      refine HC4.out.mono ?_;rintro e w5 ⟨r, rfl, hb5⟩;have HB5 : Hid (Below w.heap.size w w5) := HB4.out.trans (hb5.mono HB4.out.size);obtain ⟨z, hz⟩ : ∃ z, (r != 0) = z := ⟨_, rfl⟩;clear hb5 q0 q1 q2 q3 q4 HC4;go_upto_if 46 with fail
      (try clear hz)
      cases z with
      | true =>
       go_wp2;go_ret;exact SomeN.of _ rfl HB5.out
      | false =>
       go_wp2;go_roundw
       case rel => exact ⟨i + 1, HLT.out, by go_num, HB5⟩
       case measure => have := HLT.out; simp [intOf]; omega
   ·have hiz : ¬ (i : Int) < (m : Int) := by omega
    go_wp2;go_ret;exact SomeN.of _ rfl HB.out
end
section
open Go Go.RowKit
variable {P : Program} {ops : Array Oper} {Q : Exit → Act → World → Prop}
def gwpU (P : Program) (Q : Exit -> Act -> World -> Prop) (o : Oper) (vals : Nat -> Value) (a : Act) (w : World) (K : Act -> World -> Prop) : Prop := gwp P Q o vals a w K ∨ ∃ j want, o.guard = some (j, want) /\ vals j = undef /\ K (a.put o.dst undef) w
section
variable {o : Oper} {vals : Nat → Value} {a : Act} {w : World} {K : Act → World → Prop} {j : Nat} {want : Bool}
theorem gwpU_none (hg : o.guard = none) (h : o.wp P a w K Q) : gwpU P Q o vals a w K := .inl (gwp_none hg h)
theorem gwpU_some (hg : o.guard = some (j, want)) (hv : vals j = .bool want) (h : o.wp P a w K Q) : gwpU P Q o vals a w K := .inl (gwp_some hg hv h)
theorem gwpU_skip (hg : o.guard = some (j, want)) (hv : vals j = .bool (!want)) (h : K (a.put o.dst undef) w) : gwpU P Q o vals a w K := .inl (gwp_skip hg hv h)
theorem gwpU_undef (hg : o.guard = some (j, want)) (hv : vals j = undef) (h : K (a.put o.dst undef) w) : gwpU P Q o vals a w K := .inr ⟨j, want, hg, hv, h⟩
end
theorem wpOp_of_gwpU {l : List Oper} {a0 : Act} {vals : Nat -> Value} {i : Nat} {o : Oper} {w : World} {K : Act -> World -> Prop} (h1 : distB l.toArray = true) (h2 : dstB l.toArray a0.tmps.size = true) (hol : l[i]? = some o) (hgb : guardB l = true)
  (hs : gwpU P Q o vals (putAll l 0 vals a0) w K) : wpOp P l.toArray Q i K (putAll l 0 vals a0) w := by
 rcases hs with hs | ⟨j, want, hg, hv, hs⟩
 ·exact wpOp_of_gwp h1 h2 hol hgb hs
 have hgb2 := List.all_eq_true.1 hgb o (List.mem_of_getElem? hol);rw [hg] at hgb2;simp only at hgb2
 have hy : yielded l.toArray (putAll l 0 vals a0).tmps j = none := by
  cases hj : l[j]? with
  | none => rw [hj] at hgb2; cases hgb2
  | some oj =>
   rw [hj] at hgb2;have hja : l.toArray[j]? = some oj := by simpa using hj
   cases hdj : oj.dst with
   | none => simp only at hgb2; rw [hdj] at hgb2; cases hgb2
   | some t =>
    have ht := dst_of h2 j oj t hja hdj
    have := putAll_slot vals t l 0 j oj a0 hj hdj ht fun i o' hij ho e => by
     have hi : l.toArray[i]? = some o' := by simpa using ho
     have := dist_of h1 j i oj o' t hja hi hdj e;omega
    unfold yielded;rw [hja];simp only [Option.bind_some, hdj, this, Nat.zero_add, hv];rfl
 have ho : l.toArray[i]? = some o := by simpa using hol
 unfold wpOp;rw [ho];have hne : (none == some want) = false := by cases want <;> rfl
 simp only [Region.wanted, hg, hy, hne, Bool.false_eq_true, if_false];exact hs
def lateB (l : List Oper) (c : Nat) : Bool := decide (c < l.length) && (List.range l.length).all fun i => decide (i <= c) || reachB l.toArray l.length i c
def toldP (Vs : Bool -> List Told) (b : Bool) (c i : Nat) (v : Value) (w : World) : Prop := if i = c then ∃ b', toldAt (Vs b') i v w else toldAt (Vs b) i v w
def StepsP (P : Program) (Q : Exit -> Act -> World -> Prop) (all : List Oper) (a0 : Act) (w0 : World) (Vs : Bool -> List Told) (b : Bool) (c : Nat) : Nat -> List Oper -> Prop
  | _, [] => True
  | i, o :: r => (∀ (w : World) (vals : Nat -> Value), Below w0.heap.size w0 w -> (∀ j, (o.after.toList.any fun e => Region.binds .any e && e.on == j) = true -> toldAt (Vs b) j (vals j) w) ->
      ∀ K : Act -> World -> Prop, (∀ v w', toldP Vs b c i (match o.dst with | none => undef | some _ => v) w' -> Below w.heap.size w w' -> K ((putAll all 0 vals a0).put o.dst v) w') -> gwpU P Q o vals (putAll all 0 vals a0) w K) /\ StepsP P Q all a0 w0 Vs b c (i + 1) r
theorem stepsP_get {all : List Oper} {a0 : Act} {w0 : World} {Vs : Bool -> List Told} {b : Bool} {c : Nat} : ∀ {l : List Oper} {k i : Nat} {o : Oper}, StepsP P Q all a0 w0 Vs b c k l -> l[i]? = some o ->
  ∀ (w : World) (vals : Nat -> Value), Below w0.heap.size w0 w -> (∀ j, (o.after.toList.any fun e => Region.binds .any e && e.on == j) = true -> toldAt (Vs b) j (vals j) w) ->
   ∀ K : Act -> World -> Prop, (∀ v w', toldP Vs b c (k + i) (match o.dst with | none => undef | some _ => v) w' -> Below w.heap.size w w' -> K ((putAll all 0 vals a0).put o.dst v) w') -> gwpU P Q o vals (putAll all 0 vals a0) w K
 | [], _, _, _, _, h => by simp at h
 | x :: r, k, 0, o, hs, h => by
  simp at h
  subst h;exact hs.1
 | x :: r, k, i + 1, o, hs, h => by
  rw [List.getElem?_cons_succ] at h;have := stepsP_get hs.2 h;rw [show k + (i + 1) = k + 1 + i by omega];exact this
def PInv (ops : Array Oper) (a0 : Act) (w0 : World) (Vs : Bool -> List Told) (c : Nat) (s : Array Bool) (a : Act) (w : World) : Prop :=
 Closed ops s /\ ((s.getD c false = false /\ ∀ b, EInv ops a0 (fun w => Below w0.heap.size w0 w) (toldAt (Vs b)) s a w) ∨ (s.getD c false = true /\ ∃ b, EInv ops a0 (fun w => Below w0.heap.size w0 w) (toldAt (Vs b)) s a w))
theorem wp_region_toldP {id : Nat} (c : Nat) {a0 : Act} {w0 : World} {l : List Oper} (Vs : Bool -> List Told) (hm : P.follows .mixedOrders = true) (hb : (((backB l.toArray && (distB l.toArray && dstB l.toArray a0.tmps.size)) && guardB l) && lateB l c) = true)
    (hpre : ∀ i, i < c -> (Vs true)[i]? = (Vs false)[i]?)
    (hstep : ∀ b, StepsP P Q l a0 w0 Vs b c 0 l)
    (hQ : ∀ (b : Bool) (w : World) (vals : Nat -> Value), Below w0.heap.size w0 w -> (∀ j, j < l.length -> toldAt (Vs b) j (vals j) w) -> Q .normal (putAll l 0 vals a0) w) : (Code.region id l.toArray true).wp P Q a0 w0 := by
  rw [Bool.and_eq_true, Bool.and_eq_true, Bool.and_eq_true, Bool.and_eq_true] at hb;obtain ⟨⟨⟨hb1, hb2, hb3⟩, hb4⟩, hb5⟩ := hb
  have hrep : ∀ i, (Array.replicate l.toArray.size false).getD i false = false := fun i => by
    simp only [Array.getD];split <;> simp
  unfold lateB at hb5;rw [Bool.and_eq_true, decide_eq_true_eq] at hb5
  have hval : ∀ (b : Bool) (s : Array Bool) (a : Act) (w : World), EInv l.toArray a0 (fun w => Below w0.heap.size w0 w) (toldAt (Vs b)) s a w -> ∀ j, j < l.toArray.size -> s.getD j false = true -> toldAt (Vs b) j (valsOf l.toArray a j) w := by
    intro b s a w h j hj hl;have := h.new j l.toArray[j] (Array.getElem?_eq_getElem hj) hl;unfold valsOf;rw [Array.getElem?_eq_getElem hj];exact this
  have hput : ∀ (b : Bool) (s : Array Bool) (a : Act) (w : World), EInv l.toArray a0 (fun w => Below w0.heap.size w0 w) (toldAt (Vs b)) s a w -> putAll l 0 (valsOf l.toArray a) a0 = a := fun b s a w h => by
    have := putAll_of (ops := l.toArray) h.size h.defers h.old;simpa using this
  have hpre2 : ∀ b b' i v w, i < c -> toldAt (Vs b) i v w -> toldAt (Vs b') i v w := fun b b' i v w hi h => by
    have e : (Vs b)[i]? = (Vs b')[i]? := by
      cases b <;> cases b' <;> first | rfl | exact hpre i hi | exact (hpre i hi).symm
    unfold toldAt at *;rw [<- e];exact h
  have hop : ∀ (b : Bool) (s : Array Bool) (a : Act) (w : World) (i : Nat) (o : Oper), EInv l.toArray a0 (fun w => Below w0.heap.size w0 w) (toldAt (Vs b)) s a w -> l.toArray[i]? = some o -> (∀ e ∈ o.after, Region.binds .any e = true -> s.getD e.on false = true) ->
      wpOp P l.toArray Q i (fun a' w' => ∃ v, a' = a.put o.dst v /\ toldP Vs b c i (match o.dst with | none => undef | some _ => v) w' /\ Below w.heap.size w w') a w := by
    intro b s a w i o h ho hr;have hol : l[i]? = some o := by simpa using ho
    have hs := stepsP_get (hstep b) hol w (valsOf l.toArray a) h.cls (fun j hj => by
      rw [Array.any_toList] at hj;obtain ⟨e, he, h2⟩ := Array.any_eq_true'.1 hj;rw [Bool.and_eq_true, beq_iff_eq] at h2;have h3 := hr e he h2.1
      have hj2 : e.on < l.toArray.size := by
        have h4 := List.all_eq_true.1 hb1 i (List.mem_range.2 (Array.getElem?_eq_some_iff.1 ho).1);rw [ho] at h4;have h5 := of_decide_eq_true (Array.all_eq_true'.1 h4 e he);have := (Array.getElem?_eq_some_iff.1 ho).1;omega
      have := hval b s a w h e.on hj2 h3;rw [<- h2.2];exact this) (fun a' w' => ∃ v, a' = a.put o.dst v /\ toldP Vs b c i (match o.dst with | none => undef | some _ => v) w' /\ Below w.heap.size w w') (fun v w' h1 h2 => ⟨v, by rw [hput b s a w h], by rw [Nat.zero_add] at h1; exact h1, h2⟩)
    have hw := wpOp_of_gwpU hb2 hb3 hol hb4 hs;rw [hput b s a w h] at hw;exact hw
  refine wp_region_inv hm (PInv l.toArray a0 w0 Vs c) ⟨fun j o _ hl => (by rw [hrep] at hl; cases hl), .inl ⟨hrep c, fun b => ⟨by simp, bR.drew, rfl, rfl, fun _ _ => rfl, fun i o _ hl => by rw [hrep] at hl; cases hl⟩⟩⟩ (fun s a w h hr => ?_) ?_
  · obtain ⟨_, h | ⟨_, b, h⟩⟩ := h
    · have hall := all_listed hb1 (h.2 true).len hr
      have := hall c (by simpa using hb5.1);rw [h.1] at this
      cases this
    · have hall := all_listed hb1 h.len hr
      have := hQ b w (valsOf l.toArray a) h.cls fun j hj => hval b s a w h j (by simpa using hj) (hall j (by simpa using hj))
      rw [hput b s a w h] at this;exact this
  · intro s a w i h hi
    obtain ⟨hun, o, ho, hr⟩ := mem_ready.1 hi;have hil : i < l.length := by have := (Array.getElem?_eq_some_iff.1 ho).1; simpa using this
    obtain ⟨hc, h⟩ := h
    have hunc : s.getD i false = false := by
      rw [Array.getD_eq_getD_getElem?] at hun |-
      cases he : s[i]? with
      | none => rfl
      | some x => rw [he] at hun; exact hun
    rcases h with ⟨hcf, h⟩ | ⟨hct, b, h⟩
    · have hic : i <= c := by
        rcases Nat.lt_or_ge c i with h1 | h1
        · exfalso
          have h2 := List.all_eq_true.1 hb5.2 i (List.mem_range.2 hil);rw [Bool.or_eq_true] at h2;rcases h2 with h2 | h2
          · exact absurd (of_decide_eq_true h2) (by omega)
          · rw [ready_reach hc ho hr h2] at hcf
            cases hcf
        · exact h1
      refine wpOp_mono ?_ (hop true s a w i o (h true) ho hr);rintro a' w' ⟨v, rfl, h1, h2⟩;refine ⟨closed_set hc (h true).len ho hr, ?_⟩;by_cases e : i = c
      · subst e
        right
        unfold toldP at h1;rw [if_pos rfl] at h1;obtain ⟨b', h1⟩ := h1;exact ⟨getD_set_self (by rw [(h true).len]; simpa using hil), b', einv_step hb2 hb3 (h b') ho ((h b').cls.trans (h2.mono (h b').cls.size)) h1 fun j u _ hu => toldAt_kept _ _ _ _ _ hu h2⟩
      · left
        unfold toldP at h1;rw [if_neg e] at h1;exact ⟨by rw [getD_set_ne e]; exact hcf, fun b => einv_step hb2 hb3 (h b) ho ((h b).cls.trans (h2.mono (h b).cls.size)) (hpre2 _ _ _ _ _ (by omega) h1) fun j u _ hu => toldAt_kept _ _ _ _ _ hu h2⟩
    · have e : i ≠ c := fun e => by rw [e, hct] at hunc; cases hunc
      refine wpOp_mono ?_ (hop b s a w i o h ho hr);rintro a' w' ⟨v, rfl, h1, h2⟩;refine ⟨closed_set hc h.len ho hr, .inr ⟨by rw [getD_set_ne e]; exact hct, b, ?_⟩⟩;unfold toldP at h1;rw [if_neg e] at h1;exact einv_step hb2 hb3 h ho (h.cls.trans (h2.mono h.cls.size)) h1 fun j u _ hu => toldAt_kept _ _ _ _ _ hu h2
end
end Go.Proofs.YthcabnfcgjnlnaaGreatDoor
