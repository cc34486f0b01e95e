import Derived.Test.YthcabnfcgjnlnaaGreatDoorK07
import Derived.Laws.ResultCell
import Derived.Deep.MidRow
import Derived.Deep.Upon
import Derived.Lib.Small
/-
  Notes of a document; Get.
-/
namespace Go.Proofs.YthcabnfcgjnlnaaGreatDoor
open Go.RowKit Ru Lay
attribute [local go_sem ↓] Go.wp_at_zero Go.wp_at_succ
set_option linter.unusedVariables false
set_option linter.unusedSimpArgs false

/-- A note. -/
structure Nt where
  nid : Int
  tier : Int
  parent : Int
  at1 : Int
  at2 : Int
  rank : Int
  text : ByteArray
def nt0 : Nt := ⟨0, 0, 0, 0, 0, 0, ⟨#[]⟩⟩
def encN (n : Nt) : List Value := [.int .i64 n.nid, .int .i64 n.tier, .int .i64 n.parent, .int .i64 n.at1, .int .i64 n.at2, .int .i64 n.rank, .string n.text]
theorem encN_len (n : Nt) : (encN n).length = 7 := rfl
def noteV (n : Nt) : Value := .agg #[.int .i64 n.nid, .int .i64 n.tier, .int .i64 n.parent, .int .i64 n.at1, .int .i64 n.at2, .int .i64 n.rank, .string n.text]
/-- A document: its own fields, and where its lists lie. -/
structure Dv where
  rid : Int
  name : ByteArray
  len : Int
  day : Int
  sa : Option Addr
  sn : Nat
  sc : Nat
  ta : Option Addr
  tn : Nat
  tc : Nat
  na : Option Addr
  nn : Nat
  nc : Nat
def docV (d : Dv) : Value := .agg #[.int .i64 d.rid, .string d.name, .int .i64 d.len, .int .i64 d.day, .slice d.sa d.sn d.sc, .slice d.ta d.tn d.tc, .slice d.na d.nn d.nc]
def NotesR (w : World) (B : Nat) (A : Option Addr) (n : Nat) (l : List Nt) : Prop := RecR encN 7 w B A n l
theorem NotesR.len {w : World} {B n : Nat} {A : Option Addr} {l : List Nt} (hh : NotesR w B A n l) : l.length = n := hh.2
theorem NotesR.below {w w' : World} {B n : Nat} {A : Option Addr} {l : List Nt} (hh : NotesR w B A n l) (hb : Below B w w') : NotesR w' B A n l := RecR.below hh hb
theorem NotesR.on {w w' : World} {n : Nat} {A : Option Addr} {l : List Nt} (hh : NotesR w w.heap.size A n l) (hb : Below w.heap.size w w') : NotesR w' w'.heap.size A n l := RecR.on hh hb
theorem NotesR.at_ {w : World} {B n k : Nat} {A : Option Addr} {l : List Nt} (hh : NotesR w B A n l) (hk : k < n) :
    ∃ ad x, A = some ad ∧ ad.block < B ∧ l[k]? = some x ∧ ∀ W, Below B w W → W.cell? (ad.add (k * 7)) = some (.int .i64 x.nid) ∧ W.cell? ⟨(ad.add (k * 7)).block, (ad.add (k * 7)).off + 1, none⟩ = some (.int .i64 x.tier) ∧
      W.cell? ⟨(ad.add (k * 7)).block, (ad.add (k * 7)).off + 2, none⟩ = some (.int .i64 x.parent) ∧ W.cell? ⟨(ad.add (k * 7)).block, (ad.add (k * 7)).off + 3, none⟩ = some (.int .i64 x.at1) ∧
      W.cell? ⟨(ad.add (k * 7)).block, (ad.add (k * 7)).off + 4, none⟩ = some (.int .i64 x.at2) ∧ W.cell? ⟨(ad.add (k * 7)).block, (ad.add (k * 7)).off + 5, none⟩ = some (.int .i64 x.rank) ∧
      W.cell? ⟨(ad.add (k * 7)).block, (ad.add (k * 7)).off + 6, none⟩ = some (.string x.text) := by
  obtain ⟨ad, x, e, hb, hx, _, _⟩ := RecR.at_ encN_len (by omega) hh hk
  refine ⟨ad, x, e, hb, hx, fun W hW => ?_⟩
  obtain ⟨ad', x', e', _, hx', h0, hj⟩ := RecR.at_ encN_len (by omega) (RecR.below hh hW) hk
  rw [e] at e'
  cases e'
  rw [hx] at hx'
  cases hx'
  exact ⟨h0 _ rfl, hj 1 _ (by omega) rfl, hj 2 _ (by omega) rfl, hj 3 _ (by omega) rfl, hj 4 _ (by omega) rfl, hj 5 _ (by omega) rfl, hj 6 _ (by omega) rfl⟩
/-- The note of a number. -/
def getN (l : List Nt) (id : Int) : Option Nt := l.find? fun n => decide (n.nid = id)
theorem getN_here {l : List Nt} {id : Int} {k : Nat} {x : Nt} (hp : ∀ j y, j < k → l[j]? = some y → y.nid ≠ id) (hx : l[k]? = some x) (h : x.nid = id) : getN l id = some x := by
  induction l generalizing k with
  | nil => simp at hx
  | cons y t ih =>
    unfold getN
    cases k with
    | zero =>
      simp at hx
      subst hx
      rw [List.find?_cons_of_pos (by simpa using h)]
    | succ k =>
      rw [List.find?_cons_of_neg (by simpa using hp 0 y (by omega) rfl)]
      rw [List.getElem?_cons_succ] at hx
      exact ih (fun j z hj hz => hp (j + 1) z (by omega) (by rw [List.getElem?_cons_succ]; exact hz)) hx
theorem getN_none {l : List Nt} {id : Int} (hp : ∀ j y, j < l.length → l[j]? = some y → y.nid ≠ id) : getN l id = none := by
  unfold getN
  rw [List.find?_eq_none]
  intro x hx
  obtain ⟨j, hj⟩ := List.getElem?_of_mem hx
  simpa using hp j x (List.getElem?_eq_some_iff.1 hj).1 hj
theorem pre_step {α : Type} {l : List α} {Q : α → Prop} {i : Nat} {x : α} (h : ∀ j y, j < i → l[j]? = some y → Q y) (hx : l[i]? = some x) (hq : Q x) : ∀ j y, j < i + 1 → l[j]? = some y → Q y := fun j y hj hy => by
  by_cases e : j = i
  · subst e
    rw [hx] at hy
    cases hy
    exact hq
  · exact h j y (by omega) hy
def getV (o : Option Nt) : Value := .tuple #[noteV (o.getD nt0), .bool o.isSome]
theorem there_below {B : Nat} {a w : World} {b o n : Nat} (hb : Below B a w) (hlt : b < B) (h : a.there b o n) : w.there b o n := fun j hj => by
  obtain ⟨h1, h2⟩ := h j hj
  exact ⟨by rw [hb.cell (p := ⟨b, o + j, none⟩) hlt]; exact h1, (hb.frozen (p := ⟨b, o + j, none⟩) hlt).trans h2⟩
theorem range_below {B : Nat} {a w : World} {b o : Nat} {cs : List Value} (hb : Below B a w) (hlt : b < B) (h : a.rangeAt b o cs) : w.rangeAt b o cs := fun j v hv => (hb.cell (p := ⟨b, o + j, none⟩) hlt).trans (h j v hv)
theorem there_new (w : World) (c : Array Value) (e : TypeId) : (w.alloc (.cells c e)).there w.heap.size 0 c.size := fun j hj => by
  rw [Nat.zero_add]
  refine ⟨?_, World.frozen?_alloc_new w _ _ j⟩
  have : (w.alloc (.cells c e)).cell? ⟨w.heap.size, j, none⟩ = c[j]? := World.cell?_alloc_new w _ _ j
  rw [this, Array.getElem?_eq_getElem hj]
  rfl
theorem heap_setCells_size (b : Nat) : ∀ (vs : List Value) (o : Nat) (w : World), (w.setCells b o vs).heap.size = w.heap.size
  | [], _, _ => rfl
  | v :: r, o, w => by
    show ((w.setCell ⟨b, o, none⟩ v).setCells b (o + 1) r).heap.size = _
    rw [heap_setCells_size b r (o + 1)]
    simp
theorem heap_setCells_tape (b : Nat) : ∀ (vs : List Value) (o : Nat) (w : World), (w.setCells b o vs).tape = w.tape
  | [], _, _ => rfl
  | v :: r, o, w => by
    show ((w.setCell ⟨b, o, none⟩ v).setCells b (o + 1) r).tape = _
    rw [heap_setCells_tape b r (o + 1)]
    rfl
theorem below_set {B : Nat} {a w : World} {b o : Nat} {vs : List Value} (h : Below B a w) (hB : B ≤ b) (hs : B ≤ w.heap.size) : Below B a (w.setCells b o vs) :=
  ⟨(World.os_setCells _ _ _ _).trans h.os, (heap_setCells_tape _ _ _ _).trans h.tape, (World.output_setCells _ _ _ _).trans h.output, by rw [heap_setCells_size]; exact h.size, fun k hk => by
    rw [World.heap_setCells_other _ _ _ _ (Nat.lt_of_lt_of_le hk hs) (by omega)]
    exact h.block k hk⟩
theorem results_cell_of {P : Program} {fn : Func} {p u : Tmp} {ty : TypeId} (h : fn.results = #[.cell p ty, .tmp u]) (tmps : Array Value) (w : World) (b : Nat) (cs : List Value) (x : Value) (d : TypeDesc)
    (hp : tmps.getD p undef = .pointer (some ⟨b, 0, none⟩)) (hx : tmps.getD u undef = x) (hc : w.rangeAt b 0 cs) (hu : P.underlying ty = some d) (hd : d.isRow = true) (hi : (P.info? ty).map (·.size) = some cs.length) :
    (results fn tmps).run P w = .ok (.tuple #[.agg cs.toArray, x]) w := by
  rw [results_cell_tmp h, hp, hx]
  show ((loadVar ty ⟨b, 0, none⟩).run P w).andThen _ = _
  rw [run_loadVar_mid w b 0 ty cs d hc hu hd hi]
  rfl
set_option maxHeartbeats 1000000 in
set_option maxRecDepth 100000 in
theorem get_any (d : Dv) (l : List Nt) (id : Int) (w : World) (hl : NotesR w w.heap.size d.na d.nn l) (hn : d.nn ≤ 9223372036854775807) :
    Calls Tryz.prog 36 #[docV d, .int .i64 id] w fun e w' => e = .returned (getV (getN l id)) ∧ Below w.heap.size w w' := by
  have HL := Lib.hid hl
  have HLN := Lib.hid hl.len
  clear hl
  unfold docV
  obtain ⟨rid, name, len, day, sa, sn, sc, ta, tn, tc, na, nn, nc⟩ := d
  simp only at HL HLN hn ⊢
  go_enter Tryz.func36, Tryz.ntmps36
  go_wp2_with fail
  obtain ⟨W0, hW0⟩ : ∃ W0, (w.alloc (.cells #[.int .i64 rid, .string name, .int .i64 len, .int .i64 day, .slice sa sn sc, .slice ta tn tc, .slice na nn nc] 38)).alloc (.cells #[.int .i64 0, .int .i64 0, .int .i64 0, .int .i64 0, .int .i64 0, .int .i64 0, .string ⟨#[]⟩] 58) = W0 := ⟨_, rfl⟩
  have HB : Hid (Below w.heap.size w W0) := by rw [← hW0]; exact ((Below.refl _ w).alloc (Nat.le_refl _) _).alloc (by simp) _
  have hz0 : W0.heap.size = w.heap.size + 1 + 1 := by rw [← hW0]; simp
  have HTH : Hid (W0.there (w.heap.size + 1) 0 7) := by
    have h := there_new (w.alloc (.cells #[.int .i64 rid, .string name, .int .i64 len, .int .i64 day, .slice sa sn sc, .slice ta tn tc, .slice na nn nc] 38)) #[.int .i64 0, .int .i64 0, .int .i64 0, .int .i64 0, .int .i64 0, .int .i64 0, .string ⟨#[]⟩] 58
    rw [hW0] at h
    show W0.there _ _ _
    simpa using h
  have HRG : Hid (W0.rangeAt (w.heap.size + 1) 0 (encN nt0)) := fun j v hv => by
    rw [← hW0, Nat.zero_add]
    have h := World.cell?_alloc_new (w.alloc (.cells #[.int .i64 rid, .string name, .int .i64 len, .int .i64 day, .slice sa sn sc, .slice ta tn tc, .slice na nn nc] 38)) #[.int .i64 0, .int .i64 0, .int .i64 0, .int .i64 0, .int .i64 0, .int .i64 0, .string ⟨#[]⟩] 58 j
    rw [show (w.alloc (.cells #[.int .i64 rid, .string name, .int .i64 len, .int .i64 day, .slice sa sn sc, .slice ta tn tc, .slice na nn nc] 38)).heap.size = w.heap.size + 1 by simp] at h
    rw [h, ← hv, ← List.getElem?_toArray]
    rfl
  rw [hW0]
  clear hW0
  go_loopw [7, 11] (fun v7 v11 wr => ∃ i : Nat, i ≤ nn ∧ v11 = .int .i64 i ∧ Hid (∀ j y, j < i → l[j]? = some y → y.nid ≠ id) ∧ Hid (Below W0.heap.size W0 wr)) (fun _ v11 _ => nn - (intOf v11).toNat)
  case atStart => exact ⟨0, Nat.zero_le _, rfl, fun j y h => by omega, Below.refl _ _⟩
  case round =>
    obtain ⟨i, hi, rfl, HP, HB0⟩ := hrel
    have hsz := HB0.out.size
    by_cases hlt : i < nn
    · have hiz : (i : Int) < (nn : Int) := by omega
      have hiA : (0 : Int) ≤ (i : Int) := by omega
      obtain ⟨ad, x, rfl, hab, hx, hcells⟩ := HL.out.at_ hlt
      obtain ⟨q0, q1, q2, q3, q4, q5, q6⟩ := hcells wr (HB.out.trans (HB0.out.mono HB.out.size))
      have HX := Lib.hid hx
      have HI := Lib.hid hlt
      clear hx hcells
      by_cases he : x.nid = id
      · have HG : Hid (getN l id = some x) := getN_here HP.out HX.out he
        subst he
        have HTW := Lib.hid (there_below HB0.out (by omega) HTH.out)
        have HRW := Lib.hid (range_below HB0.out (by omega) HRG.out)
        have hlt1 : w.heap.size + 1 < wr.heap.size := by omega
        have c0 : wr.cell? ⟨w.heap.size + 1, 0, none⟩ = some (.int .i64 0) := HRW.out 0 (.int .i64 0) rfl
        have f0 : wr.frozen? ⟨w.heap.size + 1, 0, none⟩ = false := (HTW.out 0 (by omega)).2
        have c1 : wr.cell? ⟨w.heap.size + 1, 1, none⟩ = some (.int .i64 0) := HRW.out 1 (.int .i64 0) rfl
        have f1 : wr.frozen? ⟨w.heap.size + 1, 1, none⟩ = false := (HTW.out 1 (by omega)).2
        have c2 : wr.cell? ⟨w.heap.size + 1, 2, none⟩ = some (.int .i64 0) := HRW.out 2 (.int .i64 0) rfl
        have f2 : wr.frozen? ⟨w.heap.size + 1, 2, none⟩ = false := (HTW.out 2 (by omega)).2
        have c3 : wr.cell? ⟨w.heap.size + 1, 3, none⟩ = some (.int .i64 0) := HRW.out 3 (.int .i64 0) rfl
        have f3 : wr.frozen? ⟨w.heap.size + 1, 3, none⟩ = false := (HTW.out 3 (by omega)).2
        have c4 : wr.cell? ⟨w.heap.size + 1, 4, none⟩ = some (.int .i64 0) := HRW.out 4 (.int .i64 0) rfl
        have f4 : wr.frozen? ⟨w.heap.size + 1, 4, none⟩ = false := (HTW.out 4 (by omega)).2
        have c5 : wr.cell? ⟨w.heap.size + 1, 5, none⟩ = some (.int .i64 0) := HRW.out 5 (.int .i64 0) rfl
        have f5 : wr.frozen? ⟨w.heap.size + 1, 5, none⟩ = false := (HTW.out 5 (by omega)).2
        have c6 : wr.cell? ⟨w.heap.size + 1, 6, none⟩ = some (.string ⟨#[]⟩) := HRW.out 6 (.string ⟨#[]⟩) rfl
        have f6 : wr.frozen? ⟨w.heap.size + 1, 6, none⟩ = false := (HTW.out 6 (by omega)).2
        go_wp2
        (try simp only [Exit.inBlock, Exit.then])
        refine bodyPost_ret (v := getV (some x)) ?_ rfl ⟨by rw [HG.out], ?_⟩
        · show _ = Result.ok (Value.tuple #[.agg (encN x).toArray, .bool true]) _
          refine results_cell_of rfl _ _ (w.heap.size + 1) (encN x) _ _ ?_ ?_ ?_ Tryz.underlying58 rfl (by kernel_rfl)
          · rfl
          · rfl
          · exact World.rangeAt_alloc (World.rangeAt_setCells_same wr (w.heap.size + 1) 0 [.int .i64 x.nid, .int .i64 x.tier, .int .i64 x.parent, .int .i64 x.at1, .int .i64 x.at2, .int .i64 x.rank, .string x.text] HTW.out) _
        · have hbs := below_set (w := wr) (b := w.heap.size + 1) (o := 0) (vs := [.int .i64 x.nid, .int .i64 x.tier, .int .i64 x.parent, .int .i64 x.at1, .int .i64 x.at2, .int .i64 x.rank, .string x.text]) (HB.out.trans (HB0.out.mono HB.out.size)) (by omega) (by omega)
          exact hbs.alloc (by rw [heap_setCells_size]; omega) _
      · have hbe : (x.nid == id) = false := beq_eq_false_iff_ne.2 he
        have HP2 := Lib.hid (pre_step HP.out HX.out he)
        have HB1 : Hid (Below W0.heap.size W0 (wr.alloc (.cells #[.int .i64 x.nid, .int .i64 x.tier, .int .i64 x.parent, .int .i64 x.at1, .int .i64 x.at2, .int .i64 x.rank, .string x.text] 58))) := HB0.out.alloc hsz _
        go_wp2
        go_roundw
        case rel => exact ⟨i + 1, HI.out, by go_num, HP2, HB1⟩
        case measure => have := HI.out; simp [intOf]; omega
    · obtain rfl : nn = i := by omega
      have hiz : ¬ (nn : Int) < (nn : Int) := by omega
      have HG : Hid (getN l id = none) := getN_none fun j y hj => HP.out j y (by rw [← HLN.out]; exact hj)
      have HTW := Lib.hid (there_below HB0.out (by omega) HTH.out)
      have HRW := Lib.hid (range_below HB0.out (by omega) HRG.out)
      have hlt1 : w.heap.size + 1 < wr.heap.size := by omega
      have c0 : wr.cell? ⟨w.heap.size + 1, 0, none⟩ = some (.int .i64 0) := HRW.out 0 (.int .i64 0) rfl
      have f0 : wr.frozen? ⟨w.heap.size + 1, 0, none⟩ = false := (HTW.out 0 (by omega)).2
      have c1 : wr.cell? ⟨w.heap.size + 1, 1, none⟩ = some (.int .i64 0) := HRW.out 1 (.int .i64 0) rfl
      have f1 : wr.frozen? ⟨w.heap.size + 1, 1, none⟩ = false := (HTW.out 1 (by omega)).2
      have c2 : wr.cell? ⟨w.heap.size + 1, 2, none⟩ = some (.int .i64 0) := HRW.out 2 (.int .i64 0) rfl
      have f2 : wr.frozen? ⟨w.heap.size + 1, 2, none⟩ = false := (HTW.out 2 (by omega)).2
      have c3 : wr.cell? ⟨w.heap.size + 1, 3, none⟩ = some (.int .i64 0) := HRW.out 3 (.int .i64 0) rfl
      have f3 : wr.frozen? ⟨w.heap.size + 1, 3, none⟩ = false := (HTW.out 3 (by omega)).2
      have c4 : wr.cell? ⟨w.heap.size + 1, 4, none⟩ = some (.int .i64 0) := HRW.out 4 (.int .i64 0) rfl
      have f4 : wr.frozen? ⟨w.heap.size + 1, 4, none⟩ = false := (HTW.out 4 (by omega)).2
      have c5 : wr.cell? ⟨w.heap.size + 1, 5, none⟩ = some (.int .i64 0) := HRW.out 5 (.int .i64 0) rfl
      have f5 : wr.frozen? ⟨w.heap.size + 1, 5, none⟩ = false := (HTW.out 5 (by omega)).2
      have c6 : wr.cell? ⟨w.heap.size + 1, 6, none⟩ = some (.string ⟨#[]⟩) := HRW.out 6 (.string ⟨#[]⟩) rfl
      have f6 : wr.frozen? ⟨w.heap.size + 1, 6, none⟩ = false := (HTW.out 6 (by omega)).2
      go_wp2
      (try simp only [Exit.inBlock, Exit.then])
      refine bodyPost_ret (v := getV none) ?_ rfl ⟨by rw [HG.out], ?_⟩
      · show _ = Result.ok (Value.tuple #[.agg (encN nt0).toArray, .bool false]) _
        refine results_cell_of rfl _ _ (w.heap.size + 1) (encN nt0) _ _ ?_ ?_ ?_ Tryz.underlying58 rfl (by kernel_rfl)
        · rfl
        · rfl
        · exact World.rangeAt_setCells_same wr (w.heap.size + 1) 0 [.int .i64 0, .int .i64 0, .int .i64 0, .int .i64 0, .int .i64 0, .int .i64 0, .string ⟨#[]⟩] HTW.out
      · exact below_set (w := wr) (b := w.heap.size + 1) (o := 0) (vs := [.int .i64 0, .int .i64 0, .int .i64 0, .int .i64 0, .int .i64 0, .int .i64 0, .string ⟨#[]⟩]) (HB.out.trans (HB0.out.mono HB.out.size)) (by omega) (by omega)
end Go.Proofs.YthcabnfcgjnlnaaGreatDoor
/-
  concord.texts: the texts of notes.
-/
namespace Go.Proofs.YthcabnfcgjnlnaaGreatDoor
open Go.RowKit Ru Lay
attribute [local go_sem ↓] Go.wp_at_zero Go.wp_at_succ
set_option linter.unusedVariables false
set_option linter.unusedSimpArgs false

def textN (l : List Nt) (id : Int) : ByteArray := ((getN l id).getD nt0).text
end Go.Proofs.YthcabnfcgjnlnaaGreatDoor
/-
  PLAIN LAW of the chapter on collation: what the functions compute, over lists. No program in sight.
-/
set_option linter.unusedVariables false
set_option linter.unusedSimpArgs false
namespace Go.Proofs.YthcabnfcgjnlnaaGreatDoor.Col

def preB (v s : List UInt8) : Bool := v.isPrefixOf s
abbrev Acc := Nat × Nat × Nat × Bool
def stepF (s : List UInt8) (acc : Acc) (i k : Nat) (v : List UInt8) : Acc := if acc.2.2.1 < v.length ∧ preB v s = true then (i, k, v.length, true) else acc
def innerF (s : List UInt8) (l : List ByteArray) (i : Nat) (acc : Acc) : Nat → Acc
  | 0 => acc
  | k + 1 => stepF s (innerF s l i acc k) i k (l.getD k default).data.toList
def outerF (s : List UInt8) (L : List (List ByteArray)) : Nat → Acc
  | 0 => (0, 0, 0, false)
  | i + 1 => innerF s (L.getD i []) i (outerF s L i) (L.getD i []).length
def firstF (L : List (List ByteArray)) (s : List UInt8) : Acc := outerF s L L.length

/-- What is taken off: the primary and the secondary key, whether it is a letter, and how many bytes. -/
def take1 (L : List (List ByteArray)) (s : List UInt8) : Nat × Nat × Bool × Nat :=
  match firstF L s with
  | (a, b, m, true) => (a, b, true, m)
  | (_, _, _, false) => (L.length + (s.headD 0).toNat, 0, false, 1)
def lettersN (L : List (List ByteArray)) : Nat → List UInt8 → List (Nat × Nat × Bool)
  | 0, _ => []
  | f + 1, s => if s = [] then [] else ((take1 L s).1, (take1 L s).2.1, (take1 L s).2.2.1) :: lettersN L f (s.drop (take1 L s).2.2.2)
def letters (L : List (List ByteArray)) (s : List UInt8) : List (Nat × Nat × Bool) := lettersN L s.length s

end Go.Proofs.YthcabnfcgjnlnaaGreatDoor.Col
namespace Go.Proofs.YthcabnfcgjnlnaaGreatDoor.Col

end Go.Proofs.YthcabnfcgjnlnaaGreatDoor.Col
namespace Go.Proofs.YthcabnfcgjnlnaaGreatDoor.Col
end Go.Proofs.YthcabnfcgjnlnaaGreatDoor.Col
namespace Go.Proofs.YthcabnfcgjnlnaaGreatDoor
open Go.RowKit
set_option linter.unusedVariables false
set_option linter.unusedSimpArgs false

/-- A slice of slices of strings reads as L. -/
def RowsR (w : World) (B : Nat) (A : Option Addr) (n : Nat) (L : List (List ByteArray)) : Prop :=
  ∃ xs, Reads w B 1 A n xs ∧ L.length = n ∧ ∀ (i : Nat) (l : List ByteArray), L[i]? = some l → ∃ A' n' c', xs[i]? = some (Value.slice A' n' c') ∧ SR w B A' n' l
theorem SR.below {w w' : World} {B : Nat} {A : Option Addr} {n : Nat} {l : List ByteArray} (h : SR w B A n l) (hb : Below B w w') : SR w' B A n l := Reads.below h hb
theorem RowsR.at_ {w : World} {B : Nat} {A : Option Addr} {n k : Nat} {L : List (List ByteArray)} (h : RowsR w B A n L) (hk : k < n) :
    ∃ ad l A' n' c', A = some ad ∧ ad.block < B ∧ L[k]? = some l ∧ w.cell? (ad.add k) = some (Value.slice A' n' c') ∧ SR w B A' n' l := by
  obtain ⟨xs, hr, hl, hi⟩ := h
  obtain ⟨ad, u, e, hb, hx, hc⟩ := hr.at_ hk
  have hlt : k < L.length := by omega
  obtain ⟨A', n', c', hx', hs⟩ := hi k L[k] (List.getElem?_eq_getElem hlt)
  rw [hx] at hx'
  cases hx'
  exact ⟨ad, L[k], A', n', c', e, hb, List.getElem?_eq_getElem hlt, hc, hs⟩
theorem RowsR.len {w : World} {B : Nat} {A : Option Addr} {n : Nat} {L : List (List ByteArray)} (h : RowsR w B A n L) : L.length = n := by obtain ⟨xs, hr, hl, hi⟩ := h; exact hl
theorem RowsR.below {w w' : World} {B : Nat} {A : Option Addr} {n : Nat} {L : List (List ByteArray)} (h : RowsR w B A n L) (hb : Below B w w') : RowsR w' B A n L := by
  obtain ⟨xs, hr, hl, hi⟩ := h
  refine ⟨xs, hr.below hb, hl, fun i l hil => ?_⟩
  obtain ⟨A', n', c', hx', hs⟩ := hi i l hil
  exact ⟨A', n', c', hx', hs.below hb⟩

end Go.Proofs.YthcabnfcgjnlnaaGreatDoor
/-
  PLAIN LAW: comparisons that are total orders. No program in sight.
-/
set_option linter.unusedVariables false
set_option linter.unusedSimpArgs false
namespace Go.Proofs.YthcabnfcgjnlnaaGreatDoor.Col

/-- A comparison: -1, 0 or 1; a total order. -/
structure IsCmpS {α : Type} (c : α → α → Int) : Prop where
  range : ∀ x y, c x y = -1 ∨ c x y = 0 ∨ c x y = 1
  anti : ∀ x y, c y x = - c x y
  trans : ∀ x y z, c x y ≤ 0 → c y z ≤ 0 → c x z = min (c x y) (c y z)
theorem IsCmpS.self {α : Type} {c : α → α → Int} (h : IsCmpS c) (x : α) : c x x = 0 := by have := h.anti x x; omega
theorem IsCmpS.comap {α β : Type} {c : α → α → Int} (h : IsCmpS c) (f : β → α) : IsCmpS (fun x y => c (f x) (f y)) := ⟨fun _ _ => h.range _ _, fun _ _ => h.anti _ _, fun _ _ _ => h.trans _ _ _⟩
def or2 (a b : Int) : Int := if a = 0 then b else a
theorem IsCmpS.or {α : Type} {c d : α → α → Int} (hc : IsCmpS c) (hd : IsCmpS d) : IsCmpS (fun x y => or2 (c x y) (d x y)) := by
  refine ⟨fun x y => ?_, fun x y => ?_, fun x y z => ?_⟩
  · unfold or2; split
    · exact hd.range x y
    · exact hc.range x y
  · have h1 := hc.anti x y; have h2 := hd.anti x y; unfold or2; split <;> split <;> omega
  · have h1 := hc.trans x y z; have h2 := hd.trans x y z
    have r1 := hc.range x y; have r2 := hc.range y z; have r3 := hd.range x y; have r4 := hd.range y z
    have t1 := hc.anti x y; have t2 := hc.anti y z; have t3 := hc.anti x z
    unfold or2
    intro a b
    by_cases e1 : c x y = 0
    · rw [if_pos e1] at a ⊢
      by_cases e2 : c y z = 0
      · rw [if_pos e2] at b ⊢
        have := h1 (by omega) (by omega)
        have h0 : c x z = 0 := by omega
        rw [if_pos h0]
        exact h2 a b
      · rw [if_neg e2] at b ⊢
        have := h1 (by omega) (by omega)
        rw [if_neg (by omega)]
        omega
    · rw [if_neg e1] at a ⊢
      by_cases e2 : c y z = 0
      · rw [if_pos e2] at b ⊢
        have := h1 (by omega) (by omega)
        rw [if_neg (by omega)]
        omega
      · rw [if_neg e2] at b ⊢
        have := h1 (by omega) (by omega)
        rw [if_neg (by omega)]
        omega

end Go.Proofs.YthcabnfcgjnlnaaGreatDoor.Col
/-
  The program's comparison of two lists of texts: slices.CompareFunc at the closure of compare; cmp.Or.
-/
namespace Go.Proofs.YthcabnfcgjnlnaaGreatDoor
open Go.RowKit Ru Lay
attribute [local go_sem ↓] Go.wp_at_zero Go.wp_at_succ
set_option linter.unusedVariables false
set_option linter.unusedSimpArgs false

/-- The orthography that the closure holds lies in block b. -/
structure BoxOr (w : World) (b : Nat) (nm : ByteArray) (UA : Option Addr) (un uc : Nat) (LA : Option Addr) (ln lc : Nat) : Prop where
  lt : b < w.heap.size
  k0 : w.cell? ⟨b, 0, none⟩ = some (.string nm)
  k1 : w.cell? ⟨b, 1, none⟩ = some (.slice UA un uc)
  k2 : w.cell? ⟨b, 2, none⟩ = some (.slice LA ln lc)
theorem BoxOr.on {w w' : World} {b un uc ln lc : Nat} {nm : ByteArray} {UA LA : Option Addr} (h : BoxOr w b nm UA un uc LA ln lc) (hb : Below w.heap.size w w') : BoxOr w' b nm UA un uc LA ln lc :=
  ⟨Nat.lt_of_lt_of_le h.lt hb.size, (hb.cell (p := ⟨b, 0, none⟩) h.lt).trans h.k0, (hb.cell (p := ⟨b, 1, none⟩) h.lt).trans h.k1, (hb.cell (p := ⟨b, 2, none⟩) h.lt).trans h.k2⟩
/-- The first that is not zero. -/
def orI (l : List Int) : Int := (l.find? fun z => decide (z ≠ 0)).getD 0
theorem orI_here {l : List Int} {k : Nat} {x : Int} (hp : ∀ j y, j < k → l[j]? = some y → y = 0) (hx : l[k]? = some x) (h : x ≠ 0) : orI l = x := by
  induction l generalizing k with
  | nil => simp at hx
  | cons y t ih =>
    unfold orI
    cases k with
    | zero =>
      simp at hx
      subst hx
      rw [List.find?_cons_of_pos (by simpa using h)]
      rfl
    | succ k =>
      rw [List.find?_cons_of_neg (by simpa using hp 0 y (by omega) rfl)]
      rw [List.getElem?_cons_succ] at hx
      exact ih (fun j z hj hz => hp (j + 1) z (by omega) (by rw [List.getElem?_cons_succ]; exact hz)) hx
theorem orI_none {l : List Int} (hp : ∀ j y, j < l.length → l[j]? = some y → y = 0) : orI l = 0 := by
  unfold orI
  rw [List.find?_eq_none.2 fun x hx => by
    obtain ⟨j, hj⟩ := List.getElem?_of_mem hx
    simpa using hp j x (List.getElem?_eq_some_iff.1 hj).1 hj]
  rfl
theorem zero_step {l : List Int} {i : Nat} {x : Int} (h : ∀ j y, j < i → l[j]? = some y → y = 0) (hx : l[i]? = some x) (hq : x = 0) : ∀ j y, j < i + 1 → l[j]? = some y → y = 0 := fun j y hj hy => by
  by_cases e : j = i
  · subst e
    rw [hx] at hy
    cases hy
    exact hq
  · exact h j y (by omega) hy
set_option maxHeartbeats 1000000 in
theorem cmpOr_any (A : Option Addr) (n c : Nat) (l : List Int) (w : World) (hl : IR w w.heap.size A n l) (hn : n ≤ 1000) :
    Calls Tryz.prog 115 #[.slice A n c] w fun e w' => e = .returned (.int .i64 (orI l)) ∧ w' = w := by
  have HL := Lib.hid hl
  have HN := Lib.hid hl.len
  clear hl
  go_enter Tryz.func115, Tryz.ntmps115
  go_wp2_with fail
  go_loop [5, 8] (fun v5 v8 => ∃ i : Nat, i ≤ n ∧ v8 = .int .i64 i ∧ Hid (∀ j y, j < i → l[j]? = some y → y = 0)) (fun _ v8 => n - (intOf v8).toNat)
  case atStart => exact ⟨0, Nat.zero_le _, rfl, fun j y h => by omega⟩
  case round =>
    obtain ⟨i, hi, rfl, HP⟩ := hrel
    by_cases hlt : i < n
    · have hiz : (i : Int) < (n : Int) := by omega
      have hiA : (0 : Int) ≤ (i : Int) := by omega
      obtain ⟨ad, x, rfl, _, hx, hc⟩ := HL.out.at_ hlt
      have HX := Lib.hid hx
      have HI := Lib.hid hlt
      clear hx
      by_cases h0 : x = 0
      · have HP2 := Lib.hid (zero_step HP.out HX.out h0)
        subst h0
        go_wp2
        go_round
        case rel => exact ⟨i + 1, HI.out, by go_num, HP2⟩
        case measure => have := HI.out; simp [intOf]; omega
      · have hne : (x != 0) = true := by rw [bne_iff_ne]; exact h0
        have HR := Lib.hid (orI_here HP.out HX.out h0)
        go_wp2
        go_ret
        exact ⟨ret_i64 HR.out.symm, rfl⟩
    · obtain rfl : n = i := by omega
      have hiz : ¬ (n : Int) < (n : Int) := by omega
      have HR : Hid (orI l = 0) := orI_none fun j y hj => HP.out j y (by rw [← HN.out]; exact hj)
      go_wp2
      go_ret
      exact ⟨ret_i64 HR.out.symm, rfl⟩
end Go.Proofs.YthcabnfcgjnlnaaGreatDoor
/-
  PLAIN LAW: the notes of a tier that have one parent, in their order; the line of a note. No program in sight.
-/
set_option linter.unusedVariables false
set_option linter.unusedSimpArgs false
namespace Go.Proofs.YthcabnfcgjnlnaaGreatDoor
open Go.RowKit Ru Lay Srt Col

theorem cmpInt_is : IsCmp Lib.compareInt := ⟨fun x y => by unfold Lib.compareInt; split <;> split <;> omega, fun x y z => by
  unfold Lib.compareInt
  split <;> split <;> split <;> (try split) <;> (try split) <;> (try split) <;> omega⟩
theorem orI_cons (x : Int) (l : List Int) : orI (x :: l) = if x = 0 then orI l else x := by
  unfold orI
  by_cases h : x = 0
  · rw [List.find?_cons_of_neg (by simpa using h), if_pos h]
  · rw [List.find?_cons_of_pos (by simpa using h), if_neg h]
    rfl
theorem or_is {α : Type} {c d : α → α → Int} (h : IsCmp c) (k : IsCmp d) : IsCmp (fun x y => if c x y = 0 then d x y else c x y) := by
  refine ⟨fun x y => ?_, fun x y z => ?_⟩
  · have h1 := h.anti x y
    have h2 := k.anti x y
    show (if c y x = 0 then _ else _) = - (if c x y = 0 then _ else _)
    split <;> split <;> omega
  · have h1 := h.trans x y z
    have h2 := k.trans x y z
    show (if c x y = 0 then _ else _) ≤ 0 → (if c y z = 0 then _ else _) ≤ 0 → (if c x z = 0 then _ else _) ≤ 0 ∧ ((if c x z = 0 then _ else _) = 0 → (if c x y = 0 then _ else _) = 0 ∧ (if c y z = 0 then _ else _) = 0)
    split <;> split <;> split <;> omega
theorem zero_is {α : Type} : IsCmp (fun _ _ : α => (0 : Int)) := ⟨fun _ _ => rfl, fun _ _ _ _ _ => ⟨Int.le_refl _, fun _ => ⟨rfl, rfl⟩⟩⟩
theorem isCmp_congr {α : Type} {c d : α → α → Int} (h : IsCmp c) (e : ∀ x y, d x y = c x y) : IsCmp d := by
  have : d = c := funext fun x => funext fun y => e x y
  rw [this]; exact h
/-- How the program orders notes. -/
def ordN (a b : Nt) : Int := orI [Lib.compareInt a.parent b.parent, Lib.compareInt a.at1 b.at1, Lib.compareInt a.rank b.rank]
theorem ordN_is : IsCmp ordN := by
  have h1 : IsCmp fun a b : Nt => Lib.compareInt a.parent b.parent := cmpInt_is.comap Nt.parent
  have h2 : IsCmp fun a b : Nt => Lib.compareInt a.at1 b.at1 := cmpInt_is.comap Nt.at1
  have h3 : IsCmp fun a b : Nt => Lib.compareInt a.rank b.rank := cmpInt_is.comap Nt.rank
  refine isCmp_congr (or_is h1 (or_is h2 (or_is h3 zero_is))) fun x y => ?_
  unfold ordN
  rw [orI_cons, orI_cons, orI_cons]
  rfl
/-- The notes of a tier (of tn tiers) with a parent. -/
def sibs (tn : Nat) (l : List Nt) (id tier : Int) : List Nt := l.filter fun n => decide (n.tier = tier ∧ n.parent = id ∧ 0 ≤ tier ∧ tier < (tn : Int))
theorem sibs_next {tn : Nat} {l : List Nt} {id tier : Int} {i : Nat} {x : Nt} (hx : l[i]? = some x) : sibs tn (l.take (i + 1)) id tier = sibs tn (l.take i) id tier ++ (if x.tier = tier ∧ x.parent = id ∧ 0 ≤ tier ∧ tier < (tn : Int) then [x] else []) := by
  unfold sibs
  rw [take_at2 hx, List.filter_append, List.filter_cons]
  simp
theorem sibs_len {tn : Nat} {l : List Nt} {id tier : Int} : (sibs tn l id tier).length ≤ l.length := List.length_filter_le _ _
/-- Put behind all that are not greater. -/
def insN (x : Nt) : List Nt → List Nt
  | [] => [x]
  | y :: l => if ordN x y < 0 then x :: y :: l else y :: insN x l
def sortN : List Nt → List Nt := fun l => l.foldl (fun acc x => insN x acc) []
theorem insN_split (x : Nt) : ∀ l, ∃ k, k ≤ l.length ∧ insN x l = l.take k ++ x :: l.drop k ∧ (∀ j y, j < k → l[j]? = some y → 0 ≤ ordN x y) ∧ (∀ y, l[k]? = some y → ordN x y < 0)
  | [] => ⟨0, Nat.le_refl _, rfl, fun j y h => by omega, fun y h => by simp at h⟩
  | y :: l => by
    unfold insN
    split
    · rename_i h
      exact ⟨0, Nat.zero_le _, rfl, fun j z hj => by omega, fun z hz => by simp at hz; subst hz; exact h⟩
    · rename_i h
      obtain ⟨k, h1, h2, h3, h4⟩ := insN_split x l
      refine ⟨k + 1, by simpa using h1, by rw [h2]; rfl, fun j z hj hz => ?_, fun z hz => by rw [List.getElem?_cons_succ] at hz; exact h4 z hz⟩
      cases j with
      | zero => simp at hz; subst hz; omega
      | succ j => rw [List.getElem?_cons_succ] at hz; exact h3 j z (by omega) hz
theorem sortN_stable (l : List Nt) : ∀ k, k ≤ l.length → StableOf ordN (l.take k) (sortN (l.take k))
  | 0, _ => by rw [List.take_zero]; exact stable_nil
  | k + 1, h => by
    have ih := sortN_stable l k (by omega)
    have hx : l[k]? = some l[k] := List.getElem?_eq_getElem (by omega)
    obtain ⟨at_, h1, h2, h3, h4⟩ := insN_split l[k] (sortN (l.take k))
    have e : sortN (l.take (k + 1)) = insN l[k] (sortN (l.take k)) := by unfold sortN; rw [take_at2 hx, List.foldl_append]; rfl
    rw [e, h2]
    refine stable_insert ordN_is ih hx h1 (fun y h0 hy => h3 _ y (by omega) hy) (fun j y hj hy => ?_)
    by_cases e2 : j = at_
    · subst e2; exact h4 y hy
    · obtain ⟨hj2, hyj⟩ := List.getElem?_eq_some_iff.1 hy
      have hk2 : at_ < (sortN (l.take k)).length := by omega
      have g1 := h4 _ (List.getElem?_eq_getElem hk2)
      have g2 : ordN (sortN (l.take k))[at_] y ≤ 0 := by
        rw [← hyj]
        exact List.pairwise_iff_getElem.1 ih.sorted at_ j hk2 hj2 (by omega)
      have g3 := ordN_is.trans l[k] (sortN (l.take k))[at_] y (by omega) g2
      omega
theorem sortN_of {l ys : List Nt} (h : StableOf ordN l ys) : ys = sortN l := by
  have h1 := sortN_stable l l.length (Nat.le_refl _)
  rw [List.take_length] at h1
  exact h.unique ordN_is h1
/-- What tiers.Kids returns. -/
def kidsL (tn : Nat) (l : List Nt) (id tier : Int) : List Int := (sortN (sibs tn l id tier)).map Nt.nid
theorem kidsL_len {tn : Nat} {l : List Nt} {id tier : Int} : (kidsL tn l id tier).length ≤ l.length := by
  unfold kidsL
  have h1 := sortN_stable (sibs tn l id tier) _ (Nat.le_refl _)
  rw [List.take_length] at h1
  rw [List.length_map, h1.perm.length_eq]
  exact sibs_len
def ht0 : Ht := { rid := 0, nid := 0, left := [], key := ⟨#[]⟩, right := [] }
end Go.Proofs.YthcabnfcgjnlnaaGreatDoor
