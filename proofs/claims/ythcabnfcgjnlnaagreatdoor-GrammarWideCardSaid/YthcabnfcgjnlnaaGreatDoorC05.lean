import Derived.Test.YthcabnfcgjnlnaaGreatDoorC04
import Derived.Laws.ResultCell
import Derived.Deep.MidRow
import Derived.Deep.Upon
import Derived.Lib.Small
set_option linter.unusedVariables false
set_option linter.unusedSimpArgs false
namespace Go.Proofs.YthcabnfcgjnlnaaGreatDoor
open Go.RowKit Ru Lay
attribute [local go_sem ↓] Go.wp_at_zero Go.wp_at_succ
structure Nt where
 nid : Int
 tier : Int
 parent : Int
 at1 : Int
 at2 : Int
 rank : Int
 text : ByteArray
def nt0 : Nt := ⟨0, 0, 0, 0, 0, 0, ⟨#[]⟩⟩
def encN (n : Nt) : List Value := [.int .i64 n.nid, .int .i64 n.tier, .int .i64 n.parent, .int .i64 n.at1, .int .i64 n.at2, .int .i64 n.rank, .string n.text]
theorem encN_len (n : Nt) : (encN n).length = 7 := rfl
def noteV (n : Nt) : Value := .agg #[.int .i64 n.nid, .int .i64 n.tier, .int .i64 n.parent, .int .i64 n.at1, .int .i64 n.at2, .int .i64 n.rank, .string n.text]
structure Dv where
 rid : Int
 name : ByteArray
 len : Int
 day : Int
 sa : Option Addr
 sn : Nat
 sc : Nat
 ta : Option Addr
 tn : Nat
 tc : Nat
 na : Option Addr
 nn : Nat
 nc : Nat
def docV (d : Dv) : Value := .agg #[.int .i64 d.rid, .string d.name, .int .i64 d.len, .int .i64 d.day, .slice d.sa d.sn d.sc, .slice d.ta d.tn d.tc, .slice d.na d.nn d.nc]
def NotesR (w : World) (B : Nat) (A : Option Addr) (n : Nat) (l : List Nt) : Prop := RecR encN 7 w B A n l
theorem NotesR.len {w : World} {B n : Nat} {A : Option Addr} {l : List Nt} (hh : NotesR w B A n l) : l.length = n := hh.2
theorem NotesR.below {w w' : World} {B n : Nat} {A : Option Addr} {l : List Nt} (hh : NotesR w B A n l) (hb : Below B w w') : NotesR w' B A n l := RecR.below hh hb
theorem NotesR.on {w w' : World} {n : Nat} {A : Option Addr} {l : List Nt} (hh : NotesR w w.heap.size A n l) (hb : Below w.heap.size w w') : NotesR w' w'.heap.size A n l := RecR.on hh hb
theorem NotesR.at_ {w : World} {B n k : Nat} {A : Option Addr} {l : List Nt} (hh : NotesR w B A n l) (hk : k < n) :
  ∃ ad x, A = some ad ∧ ad.block < B ∧ l[k]? = some x ∧ ∀ W, Below B w W → W.cell? (ad.add (k * 7)) = some (.int .i64 x.nid) ∧ W.cell? ⟨(ad.add (k * 7)).block, (ad.add (k * 7)).off + 1, none⟩ = some (.int .i64 x.tier) ∧
   W.cell? ⟨(ad.add (k * 7)).block, (ad.add (k * 7)).off + 2, none⟩ = some (.int .i64 x.parent) ∧ W.cell? ⟨(ad.add (k * 7)).block, (ad.add (k * 7)).off + 3, none⟩ = some (.int .i64 x.at1) ∧
   W.cell? ⟨(ad.add (k * 7)).block, (ad.add (k * 7)).off + 4, none⟩ = some (.int .i64 x.at2) ∧ W.cell? ⟨(ad.add (k * 7)).block, (ad.add (k * 7)).off + 5, none⟩ = some (.int .i64 x.rank) ∧
   W.cell? ⟨(ad.add (k * 7)).block, (ad.add (k * 7)).off + 6, none⟩ = some (.string x.text) := by
 obtain ⟨ad, x, e, hb, hx, _, _⟩ := RecR.at_ encN_len (by omega) hh hk
 refine ⟨ad, x, e, hb, hx, fun W hW => ?_⟩
 obtain ⟨ad', x', e', _, hx', h0, hj⟩ := RecR.at_ encN_len (by omega) (RecR.below hh hW) hk
 rw [e] at e'
 cases e'
 rw [hx] at hx'
 cases hx'
 exact ⟨h0 _ rfl, hj 1 _ (by omega) rfl, hj 2 _ (by omega) rfl, hj 3 _ (by omega) rfl, hj 4 _ (by omega) rfl, hj 5 _ (by omega) rfl, hj 6 _ (by omega) rfl⟩
def getN (l : List Nt) (id : Int) : Option Nt := l.find? fun n => decide (n.nid = id)
theorem getN_here {l : List Nt} {id : Int} {k : Nat} {x : Nt} (hp : ∀ j y, j < k → l[j]? = some y → y.nid ≠ id) (hx : l[k]? = some x) (h : x.nid = id) : getN l id = some x := by
 induction l generalizing k with
 | nil => simp at hx
 | cons y t ih =>
  unfold getN
  cases k with
  | zero =>
   simp at hx
   subst hx
   rw [List.find?_cons_of_pos (by simpa using h)]
  | succ k =>
   rw [List.find?_cons_of_neg (by simpa using hp 0 y (by omega) rfl)]
   rw [List.getElem?_cons_succ] at hx
   exact ih (fun j z hj hz => hp (j + 1) z (by omega) (by rw [List.getElem?_cons_succ]; exact hz)) hx
theorem getN_none {l : List Nt} {id : Int} (hp : ∀ j y, j < l.length → l[j]? = some y → y.nid ≠ id) : getN l id = none := by
 unfold getN
 rw [List.find?_eq_none]
 intro x hx
 obtain ⟨j, hj⟩ := List.getElem?_of_mem hx
 simpa using hp j x (List.getElem?_eq_some_iff.1 hj).1 hj
theorem pre_step {α : Type} {l : List α} {Q : α → Prop} {i : Nat} {x : α} (h : ∀ j y, j < i → l[j]? = some y → Q y) (hx : l[i]? = some x) (hq : Q x) : ∀ j y, j < i + 1 → l[j]? = some y → Q y := fun j y hj hy => by
 by_cases e : j = i
 ·subst e
  rw [hx] at hy
  cases hy
  exact hq
 ·exact h j y (by omega) hy
def getV (o : Option Nt) : Value := .tuple #[noteV (o.getD nt0), .bool o.isSome]
theorem there_below {B : Nat} {a w : World} {b o n : Nat} (hb : Below B a w) (hlt : b < B) (h : a.there b o n) : w.there b o n := fun j hj => by
 obtain ⟨h1, h2⟩ := h j hj
 exact ⟨by rw [hb.cell (p := ⟨b, o + j, none⟩) hlt]; exact h1, (hb.frozen (p := ⟨b, o + j, none⟩) hlt).trans h2⟩
theorem range_below {B : Nat} {a w : World} {b o : Nat} {cs : List Value} (hb : Below B a w) (hlt : b < B) (h : a.rangeAt b o cs) : w.rangeAt b o cs := fun j v hv => (hb.cell (p := ⟨b, o + j, none⟩) hlt).trans (h j v hv)
theorem there_new (w : World) (c : Array Value) (e : TypeId) : (w.alloc (.cells c e)).there w.heap.size 0 c.size := fun j hj => by
 rw [Nat.zero_add]
 refine ⟨?_, World.frozen?_alloc_new w _ _ j⟩
 have : (w.alloc (.cells c e)).cell? ⟨w.heap.size, j, none⟩ = c[j]? := World.cell?_alloc_new w _ _ j
 rw [this, Array.getElem?_eq_getElem hj]
 rfl
theorem heap_setCells_size (b : Nat) : ∀ (vs : List Value) (o : Nat) (w : World), (w.setCells b o vs).heap.size = w.heap.size
 | [], _, _ => rfl
 | v :: r, o, w => by
  show ((w.setCell ⟨b, o, none⟩ v).setCells b (o + 1) r).heap.size = _
  rw [heap_setCells_size b r (o + 1)]
  simp
theorem heap_setCells_tape (b : Nat) : ∀ (vs : List Value) (o : Nat) (w : World), (w.setCells b o vs).tape = w.tape
 | [], _, _ => rfl
 | v :: r, o, w => by
  show ((w.setCell ⟨b, o, none⟩ v).setCells b (o + 1) r).tape = _
  rw [heap_setCells_tape b r (o + 1)]
  rfl
theorem below_set {B : Nat} {a w : World} {b o : Nat} {vs : List Value} (h : Below B a w) (hB : B ≤ b) (hs : B ≤ w.heap.size) : Below B a (w.setCells b o vs) :=
 ⟨(World.os_setCells _ _ _ _).trans h.os, (heap_setCells_tape _ _ _ _).trans h.tape, (World.output_setCells _ _ _ _).trans h.output, by rw [heap_setCells_size]; exact h.size, fun k hk => by
  rw [World.heap_setCells_other _ _ _ _ (Nat.lt_of_lt_of_le hk hs) (by omega)]
  exact h.block k hk⟩
theorem results_cell_of {P : Program} {fn : Func} {p u : Tmp} {ty : TypeId} (h : fn.results = #[.cell p ty, .tmp u]) (tmps : Array Value) (w : World) (b : Nat) (cs : List Value) (x : Value) (d : TypeDesc)
  (hp : tmps.getD p undef = .pointer (some ⟨b, 0, none⟩)) (hx : tmps.getD u undef = x) (hc : w.rangeAt b 0 cs) (hu : P.underlying ty = some d) (hd : d.isRow = true) (hi : (P.info? ty).map (·.size) = some cs.length) :
  (results fn tmps).run P w = .ok (.tuple #[.agg cs.toArray, x]) w := by
 rw [results_cell_tmp h, hp, hx]
 show ((loadVar ty ⟨b, 0, none⟩).run P w).andThen _ = _
 rw [run_loadVar_mid w b 0 ty cs d hc hu hd hi]
 rfl
set_option maxHeartbeats 1000000 in
set_option maxRecDepth 100000 in
theorem get_any (d : Dv) (l : List Nt) (id : Int) (w : World) (hl : NotesR w w.heap.size d.na d.nn l) (hn : d.nn ≤ 9223372036854775807) :
  Calls Tryz.prog 36 #[docV d, .int .i64 id] w fun e w' => e = .returned (getV (getN l id)) ∧ Below w.heap.size w w' := by
 have HL := Lib.hid hl
 have HLN := Lib.hid hl.len
 clear hl
 unfold docV
 obtain ⟨rid, name, len, day, sa, sn, sc, ta, tn, tc, na, nn, nc⟩ := d
 simp only at HL HLN hn ⊢
 go_enter Tryz.func36, Tryz.ntmps36
 go_wp2_with fail
 obtain ⟨W0, hW0⟩ : ∃ W0, (w.alloc (.cells #[.int .i64 rid, .string name, .int .i64 len, .int .i64 day, .slice sa sn sc, .slice ta tn tc, .slice na nn nc] 38)).alloc (.cells #[.int .i64 0, .int .i64 0, .int .i64 0, .int .i64 0, .int .i64 0, .int .i64 0, .string ⟨#[]⟩] 58) = W0 := ⟨_, rfl⟩
 have HB : Hid (Below w.heap.size w W0) := by rw [← hW0]; exact ((Below.refl _ w).alloc (Nat.le_refl _) _).alloc (by simp) _
 have hz0 : W0.heap.size = w.heap.size + 1 + 1 := by rw [← hW0]; simp
 have HTH : Hid (W0.there (w.heap.size + 1) 0 7) := by
  have h := there_new (w.alloc (.cells #[.int .i64 rid, .string name, .int .i64 len, .int .i64 day, .slice sa sn sc, .slice ta tn tc, .slice na nn nc] 38)) #[.int .i64 0, .int .i64 0, .int .i64 0, .int .i64 0, .int .i64 0, .int .i64 0, .string ⟨#[]⟩] 58
  rw [hW0] at h
  show W0.there _ _ _
  simpa using h
 have HRG : Hid (W0.rangeAt (w.heap.size + 1) 0 (encN nt0)) := fun j v hv => by
  rw [← hW0, Nat.zero_add]
  have h := World.cell?_alloc_new (w.alloc (.cells #[.int .i64 rid, .string name, .int .i64 len, .int .i64 day, .slice sa sn sc, .slice ta tn tc, .slice na nn nc] 38)) #[.int .i64 0, .int .i64 0, .int .i64 0, .int .i64 0, .int .i64 0, .int .i64 0, .string ⟨#[]⟩] 58 j
  rw [show (w.alloc (.cells #[.int .i64 rid, .string name, .int .i64 len, .int .i64 day, .slice sa sn sc, .slice ta tn tc, .slice na nn nc] 38)).heap.size = w.heap.size + 1 by simp] at h
  rw [h, ← hv, ← List.getElem?_toArray]
  rfl
 rw [hW0]
 clear hW0
 go_loopw [7, 11] (fun v7 v11 wr => ∃ i : Nat, i ≤ nn ∧ v11 = .int .i64 i ∧ Hid (∀ j y, j < i → l[j]? = some y → y.nid ≠ id) ∧ Hid (Below W0.heap.size W0 wr)) (fun _ v11 _ => nn - (intOf v11).toNat)
 case atStart => exact ⟨0, Nat.zero_le _, rfl, fun j y h => by omega, Below.refl _ _⟩
 case round =>
  obtain ⟨i, hi, rfl, HP, HB0⟩ := hrel
  have hsz := HB0.out.size
  by_cases hlt : i < nn
  ·have hiz : (i : Int) < (nn : Int) := by omega
   have hiA : (0 : Int) ≤ (i : Int) := by omega
   obtain ⟨ad, x, rfl, hab, hx, hcells⟩ := HL.out.at_ hlt
   obtain ⟨q0, q1, q2, q3, q4, q5, q6⟩ := hcells wr (HB.out.trans (HB0.out.mono HB.out.size))
   have HX := Lib.hid hx
   have HI := Lib.hid hlt
   clear hx hcells
   by_cases he : x.nid = id
   ·have HG : Hid (getN l id = some x) := getN_here HP.out HX.out he
    subst he
    have HTW := Lib.hid (there_below HB0.out (by omega) HTH.out)
    have HRW := Lib.hid (range_below HB0.out (by omega) HRG.out)
    have hlt1 : w.heap.size + 1 < wr.heap.size := by omega
    have c0 : wr.cell? ⟨w.heap.size + 1, 0, none⟩ = some (.int .i64 0) := HRW.out 0 (.int .i64 0) rfl
    have f0 : wr.frozen? ⟨w.heap.size + 1, 0, none⟩ = false := (HTW.out 0 (by omega)).2
    have c1 : wr.cell? ⟨w.heap.size + 1, 1, none⟩ = some (.int .i64 0) := HRW.out 1 (.int .i64 0) rfl
    have f1 : wr.frozen? ⟨w.heap.size + 1, 1, none⟩ = false := (HTW.out 1 (by omega)).2
    have c2 : wr.cell? ⟨w.heap.size + 1, 2, none⟩ = some (.int .i64 0) := HRW.out 2 (.int .i64 0) rfl
    have f2 : wr.frozen? ⟨w.heap.size + 1, 2, none⟩ = false := (HTW.out 2 (by omega)).2
    have c3 : wr.cell? ⟨w.heap.size + 1, 3, none⟩ = some (.int .i64 0) := HRW.out 3 (.int .i64 0) rfl
    have f3 : wr.frozen? ⟨w.heap.size + 1, 3, none⟩ = false := (HTW.out 3 (by omega)).2
    have c4 : wr.cell? ⟨w.heap.size + 1, 4, none⟩ = some (.int .i64 0) := HRW.out 4 (.int .i64 0) rfl
    have f4 : wr.frozen? ⟨w.heap.size + 1, 4, none⟩ = false := (HTW.out 4 (by omega)).2
    have c5 : wr.cell? ⟨w.heap.size + 1, 5, none⟩ = some (.int .i64 0) := HRW.out 5 (.int .i64 0) rfl
    have f5 : wr.frozen? ⟨w.heap.size + 1, 5, none⟩ = false := (HTW.out 5 (by omega)).2
    have c6 : wr.cell? ⟨w.heap.size + 1, 6, none⟩ = some (.string ⟨#[]⟩) := HRW.out 6 (.string ⟨#[]⟩) rfl
    have f6 : wr.frozen? ⟨w.heap.size + 1, 6, none⟩ = false := (HTW.out 6 (by omega)).2
    go_wp2
    (try simp only [Exit.inBlock, Exit.then])
    refine bodyPost_ret (v := getV (some x)) ?_ rfl ⟨by rw [HG.out], ?_⟩
    ·show _ = Result.ok (Value.tuple #[.agg (encN x).toArray, .bool true]) _
     refine results_cell_of rfl _ _ (w.heap.size + 1) (encN x) _ _ ?_ ?_ ?_ Tryz.underlying58 rfl (by kernel_rfl)
     ·rfl
     ·rfl
     ·exact World.rangeAt_alloc (World.rangeAt_setCells_same wr (w.heap.size + 1) 0 [.int .i64 x.nid, .int .i64 x.tier, .int .i64 x.parent, .int .i64 x.at1, .int .i64 x.at2, .int .i64 x.rank, .string x.text] HTW.out) _
    ·have hbs := below_set (w := wr) (b := w.heap.size + 1) (o := 0) (vs := [.int .i64 x.nid, .int .i64 x.tier, .int .i64 x.parent, .int .i64 x.at1, .int .i64 x.at2, .int .i64 x.rank, .string x.text]) (HB.out.trans (HB0.out.mono HB.out.size)) (by omega) (by omega)
     exact hbs.alloc (by rw [heap_setCells_size]; omega) _
   ·have hbe : (x.nid == id) = false := beq_eq_false_iff_ne.2 he
    have HP2 := Lib.hid (pre_step HP.out HX.out he)
    have HB1 : Hid (Below W0.heap.size W0 (wr.alloc (.cells #[.int .i64 x.nid, .int .i64 x.tier, .int .i64 x.parent, .int .i64 x.at1, .int .i64 x.at2, .int .i64 x.rank, .string x.text] 58))) := HB0.out.alloc hsz _
    go_wp2
    go_roundw
    case rel => exact ⟨i + 1, HI.out, by go_num, HP2, HB1⟩
    case measure => have := HI.out; simp [intOf]; omega
  ·obtain rfl : nn = i := by omega
   have hiz : ¬ (nn : Int) < (nn : Int) := by omega
   have HG : Hid (getN l id = none) := getN_none fun j y hj => HP.out j y (by rw [← HLN.out]; exact hj)
   have HTW := Lib.hid (there_below HB0.out (by omega) HTH.out)
   have HRW := Lib.hid (range_below HB0.out (by omega) HRG.out)
   have hlt1 : w.heap.size + 1 < wr.heap.size := by omega
   have c0 : wr.cell? ⟨w.heap.size + 1, 0, none⟩ = some (.int .i64 0) := HRW.out 0 (.int .i64 0) rfl
   have f0 : wr.frozen? ⟨w.heap.size + 1, 0, none⟩ = false := (HTW.out 0 (by omega)).2
   have c1 : wr.cell? ⟨w.heap.size + 1, 1, none⟩ = some (.int .i64 0) := HRW.out 1 (.int .i64 0) rfl
   have f1 : wr.frozen? ⟨w.heap.size + 1, 1, none⟩ = false := (HTW.out 1 (by omega)).2
   have c2 : wr.cell? ⟨w.heap.size + 1, 2, none⟩ = some (.int .i64 0) := HRW.out 2 (.int .i64 0) rfl
   have f2 : wr.frozen? ⟨w.heap.size + 1, 2, none⟩ = false := (HTW.out 2 (by omega)).2
   have c3 : wr.cell? ⟨w.heap.size + 1, 3, none⟩ = some (.int .i64 0) := HRW.out 3 (.int .i64 0) rfl
   have f3 : wr.frozen? ⟨w.heap.size + 1, 3, none⟩ = false := (HTW.out 3 (by omega)).2
   have c4 : wr.cell? ⟨w.heap.size + 1, 4, none⟩ = some (.int .i64 0) := HRW.out 4 (.int .i64 0) rfl
   have f4 : wr.frozen? ⟨w.heap.size + 1, 4, none⟩ = false := (HTW.out 4 (by omega)).2
   have c5 : wr.cell? ⟨w.heap.size + 1, 5, none⟩ = some (.int .i64 0) := HRW.out 5 (.int .i64 0) rfl
   have f5 : wr.frozen? ⟨w.heap.size + 1, 5, none⟩ = false := (HTW.out 5 (by omega)).2
   have c6 : wr.cell? ⟨w.heap.size + 1, 6, none⟩ = some (.string ⟨#[]⟩) := HRW.out 6 (.string ⟨#[]⟩) rfl
   have f6 : wr.frozen? ⟨w.heap.size + 1, 6, none⟩ = false := (HTW.out 6 (by omega)).2
   go_wp2
   (try simp only [Exit.inBlock, Exit.then])
   refine bodyPost_ret (v := getV none) ?_ rfl ⟨by rw [HG.out], ?_⟩
   ·show _ = Result.ok (Value.tuple #[.agg (encN nt0).toArray, .bool false]) _
    refine results_cell_of rfl _ _ (w.heap.size + 1) (encN nt0) _ _ ?_ ?_ ?_ Tryz.underlying58 rfl (by kernel_rfl)
    ·rfl
    ·rfl
    ·exact World.rangeAt_setCells_same wr (w.heap.size + 1) 0 [.int .i64 0, .int .i64 0, .int .i64 0, .int .i64 0, .int .i64 0, .int .i64 0, .string ⟨#[]⟩] HTW.out
   ·exact below_set (w := wr) (b := w.heap.size + 1) (o := 0) (vs := [.int .i64 0, .int .i64 0, .int .i64 0, .int .i64 0, .int .i64 0, .int .i64 0, .string ⟨#[]⟩]) (HB.out.trans (HB0.out.mono HB.out.size)) (by omega) (by omega)
def textN (l : List Nt) (id : Int) : ByteArray := ((getN l id).getD nt0).text
end Go.Proofs.YthcabnfcgjnlnaaGreatDoor
namespace Go.Proofs.YthcabnfcgjnlnaaGreatDoor.Col
def preB (v s : List UInt8) : Bool := v.isPrefixOf s
abbrev Acc := Nat × Nat × Nat × Bool
def stepF (s : List UInt8) (acc : Acc) (i k : Nat) (v : List UInt8) : Acc := if acc.2.2.1 < v.length ∧ preB v s = true then (i, k, v.length, true) else acc
def innerF (s : List UInt8) (l : List ByteArray) (i : Nat) (acc : Acc) : Nat → Acc
 | 0 => acc
 | k + 1 => stepF s (innerF s l i acc k) i k (l.getD k default).data.toList
def outerF (s : List UInt8) (L : List (List ByteArray)) : Nat → Acc
 | 0 => (0, 0, 0, false)
 | i + 1 => innerF s (L.getD i []) i (outerF s L i) (L.getD i []).length
def firstF (L : List (List ByteArray)) (s : List UInt8) : Acc := outerF s L L.length
def take1 (L : List (List ByteArray)) (s : List UInt8) : Nat × Nat × Bool × Nat :=
 match firstF L s with
 | (a, b, m, true) => (a, b, true, m)
 | (_, _, _, false) => (L.length + (s.headD 0).toNat, 0, false, 1)
def lettersN (L : List (List ByteArray)) : Nat → List UInt8 → List (Nat × Nat × Bool)
 | 0, _ => []
 | f + 1, s => if s = [] then [] else ((take1 L s).1, (take1 L s).2.1, (take1 L s).2.2.1) :: lettersN L f (s.drop (take1 L s).2.2.2)
def letters (L : List (List ByteArray)) (s : List UInt8) : List (Nat × Nat × Bool) := lettersN L s.length s
end Go.Proofs.YthcabnfcgjnlnaaGreatDoor.Col
namespace Go.Proofs.YthcabnfcgjnlnaaGreatDoor.Col
end Go.Proofs.YthcabnfcgjnlnaaGreatDoor.Col
namespace Go.Proofs.YthcabnfcgjnlnaaGreatDoor.Col
end Go.Proofs.YthcabnfcgjnlnaaGreatDoor.Col
namespace Go.Proofs.YthcabnfcgjnlnaaGreatDoor
open Go.RowKit
def RowsR (w : World) (B : Nat) (A : Option Addr) (n : Nat) (L : List (List ByteArray)) : Prop :=
 ∃ xs, Reads w B 1 A n xs ∧ L.length = n ∧ ∀ (i : Nat) (l : List ByteArray), L[i]? = some l → ∃ A' n' c', xs[i]? = some (Value.slice A' n' c') ∧ SR w B A' n' l
theorem SR.below {w w' : World} {B : Nat} {A : Option Addr} {n : Nat} {l : List ByteArray} (h : SR w B A n l) (hb : Below B w w') : SR w' B A n l := Reads.below h hb
theorem RowsR.at_ {w : World} {B : Nat} {A : Option Addr} {n k : Nat} {L : List (List ByteArray)} (h : RowsR w B A n L) (hk : k < n) :
  ∃ ad l A' n' c', A = some ad ∧ ad.block < B ∧ L[k]? = some l ∧ w.cell? (ad.add k) = some (Value.slice A' n' c') ∧ SR w B A' n' l := by
 obtain ⟨xs, hr, hl, hi⟩ := h
 obtain ⟨ad, u, e, hb, hx, hc⟩ := hr.at_ hk
 have hlt : k < L.length := by omega
 obtain ⟨A', n', c', hx', hs⟩ := hi k L[k] (List.getElem?_eq_getElem hlt)
 rw [hx] at hx'
 cases hx'
 exact ⟨ad, L[k], A', n', c', e, hb, List.getElem?_eq_getElem hlt, hc, hs⟩
theorem RowsR.len {w : World} {B : Nat} {A : Option Addr} {n : Nat} {L : List (List ByteArray)} (h : RowsR w B A n L) : L.length = n := by obtain ⟨xs, hr, hl, hi⟩ := h; exact hl
theorem RowsR.below {w w' : World} {B : Nat} {A : Option Addr} {n : Nat} {L : List (List ByteArray)} (h : RowsR w B A n L) (hb : Below B w w') : RowsR w' B A n L := by
 obtain ⟨xs, hr, hl, hi⟩ := h
 refine ⟨xs, hr.below hb, hl, fun i l hil => ?_⟩
 obtain ⟨A', n', c', hx', hs⟩ := hi i l hil
 exact ⟨A', n', c', hx', hs.below hb⟩
end Go.Proofs.YthcabnfcgjnlnaaGreatDoor
namespace Go.Proofs.YthcabnfcgjnlnaaGreatDoor.Col
structure IsCmpS {α : Type} (c : α → α → Int) : Prop where
 range : ∀ x y, c x y = -1 ∨ c x y = 0 ∨ c x y = 1
 anti : ∀ x y, c y x = - c x y
 trans : ∀ x y z, c x y ≤ 0 → c y z ≤ 0 → c x z = min (c x y) (c y z)
theorem IsCmpS.self {α : Type} {c : α → α → Int} (h : IsCmpS c) (x : α) : c x x = 0 := by have := h.anti x x; omega
theorem IsCmpS.comap {α β : Type} {c : α → α → Int} (h : IsCmpS c) (f : β → α) : IsCmpS (fun x y => c (f x) (f y)) := ⟨fun _ _ => h.range _ _, fun _ _ => h.anti _ _, fun _ _ _ => h.trans _ _ _⟩
end Go.Proofs.YthcabnfcgjnlnaaGreatDoor.Col
namespace Go.Proofs.YthcabnfcgjnlnaaGreatDoor
open Go.RowKit Ru Lay
attribute [local go_sem ↓] Go.wp_at_zero Go.wp_at_succ
structure BoxOr (w : World) (b : Nat) (nm : ByteArray) (UA : Option Addr) (un uc : Nat) (LA : Option Addr) (ln lc : Nat) : Prop where
 lt : b < w.heap.size
 k0 : w.cell? ⟨b, 0, none⟩ = some (.string nm)
 k1 : w.cell? ⟨b, 1, none⟩ = some (.slice UA un uc)
 k2 : w.cell? ⟨b, 2, none⟩ = some (.slice LA ln lc)
theorem BoxOr.on {w w' : World} {b un uc ln lc : Nat} {nm : ByteArray} {UA LA : Option Addr} (h : BoxOr w b nm UA un uc LA ln lc) (hb : Below w.heap.size w w') : BoxOr w' b nm UA un uc LA ln lc :=
 ⟨Nat.lt_of_lt_of_le h.lt hb.size, (hb.cell (p := ⟨b, 0, none⟩) h.lt).trans h.k0, (hb.cell (p := ⟨b, 1, none⟩) h.lt).trans h.k1, (hb.cell (p := ⟨b, 2, none⟩) h.lt).trans h.k2⟩
def orI (l : List Int) : Int := (l.find? fun z => decide (z ≠ 0)).getD 0
theorem orI_here {l : List Int} {k : Nat} {x : Int} (hp : ∀ j y, j < k → l[j]? = some y → y = 0) (hx : l[k]? = some x) (h : x ≠ 0) : orI l = x := by
 induction l generalizing k with
 | nil => simp at hx
 | cons y t ih =>
  unfold orI
  cases k with
  | zero =>
   simp at hx
   subst hx
   rw [List.find?_cons_of_pos (by simpa using h)]
   rfl
  | succ k =>
   rw [List.find?_cons_of_neg (by simpa using hp 0 y (by omega) rfl)]
   rw [List.getElem?_cons_succ] at hx
   exact ih (fun j z hj hz => hp (j + 1) z (by omega) (by rw [List.getElem?_cons_succ]; exact hz)) hx
theorem orI_none {l : List Int} (hp : ∀ j y, j < l.length → l[j]? = some y → y = 0) : orI l = 0 := by
 unfold orI
 rw [List.find?_eq_none.2 fun x hx => by
  obtain ⟨j, hj⟩ := List.getElem?_of_mem hx
  simpa using hp j x (List.getElem?_eq_some_iff.1 hj).1 hj]
 rfl
theorem zero_step {l : List Int} {i : Nat} {x : Int} (h : ∀ j y, j < i → l[j]? = some y → y = 0) (hx : l[i]? = some x) (hq : x = 0) : ∀ j y, j < i + 1 → l[j]? = some y → y = 0 := fun j y hj hy => by
 by_cases e : j = i
 ·subst e
  rw [hx] at hy
  cases hy
  exact hq
 ·exact h j y (by omega) hy
set_option maxHeartbeats 1000000 in
theorem cmpOr_any (A : Option Addr) (n c : Nat) (l : List Int) (w : World) (hl : IR w w.heap.size A n l) (hn : n ≤ 1000) :
  Calls Tryz.prog 115 #[.slice A n c] w fun e w' => e = .returned (.int .i64 (orI l)) ∧ w' = w := by
 have HL := Lib.hid hl
 have HN := Lib.hid hl.len
 clear hl
 go_enter Tryz.func115, Tryz.ntmps115
 go_wp2_with fail
 go_loop [5, 8] (fun v5 v8 => ∃ i : Nat, i ≤ n ∧ v8 = .int .i64 i ∧ Hid (∀ j y, j < i → l[j]? = some y → y = 0)) (fun _ v8 => n - (intOf v8).toNat)
 case atStart => exact ⟨0, Nat.zero_le _, rfl, fun j y h => by omega⟩
 case round =>
  obtain ⟨i, hi, rfl, HP⟩ := hrel
  by_cases hlt : i < n
  ·have hiz : (i : Int) < (n : Int) := by omega
   have hiA : (0 : Int) ≤ (i : Int) := by omega
   obtain ⟨ad, x, rfl, _, hx, hc⟩ := HL.out.at_ hlt
   have HX := Lib.hid hx
   have HI := Lib.hid hlt
   clear hx
   by_cases h0 : x = 0
   ·have HP2 := Lib.hid (zero_step HP.out HX.out h0)
    subst h0
    go_wp2
    go_round
    case rel => exact ⟨i + 1, HI.out, by go_num, HP2⟩
    case measure => have := HI.out; simp [intOf]; omega
   ·have hne : (x != 0) = true := by rw [bne_iff_ne]; exact h0
    have HR := Lib.hid (orI_here HP.out HX.out h0)
    go_wp2
    go_ret
    exact ⟨ret_i64 HR.out.symm, rfl⟩
  ·obtain rfl : n = i := by omega
   have hiz : ¬ (n : Int) < (n : Int) := by omega
   have HR : Hid (orI l = 0) := orI_none fun j y hj => HP.out j y (by rw [← HN.out]; exact hj)
   go_wp2
   go_ret
   exact ⟨ret_i64 HR.out.symm, rfl⟩
end Go.Proofs.YthcabnfcgjnlnaaGreatDoor
namespace Go.Proofs.YthcabnfcgjnlnaaGreatDoor
open Go.RowKit Ru Lay Srt Col
theorem cmpInt_is : IsCmp Lib.compareInt := ⟨fun x y => by unfold Lib.compareInt; split <;> split <;> omega, fun x y z => by
 unfold Lib.compareInt
 split <;> split <;> split <;> (try split) <;> (try split) <;> (try split) <;> omega⟩
theorem orI_cons (x : Int) (l : List Int) : orI (x :: l) = if x = 0 then orI l else x := by
 unfold orI
 by_cases h : x = 0
 ·rw [List.find?_cons_of_neg (by simpa using h), if_pos h]
 ·rw [List.find?_cons_of_pos (by simpa using h), if_neg h]
  rfl
theorem or_is {α : Type} {c d : α → α → Int} (h : IsCmp c) (k : IsCmp d) : IsCmp (fun x y => if c x y = 0 then d x y else c x y) := by
 refine ⟨fun x y => ?_, fun x y z => ?_⟩
 ·have h1 := h.anti x y
  have h2 := k.anti x y
  show (if c y x = 0 then _ else _) = - (if c x y = 0 then _ else _)
  split <;> split <;> omega
 ·have h1 := h.trans x y z
  have h2 := k.trans x y z
  show (if c x y = 0 then _ else _) ≤ 0 → (if c y z = 0 then _ else _) ≤ 0 → (if c x z = 0 then _ else _) ≤ 0 ∧ ((if c x z = 0 then _ else _) = 0 → (if c x y = 0 then _ else _) = 0 ∧ (if c y z = 0 then _ else _) = 0)
  split <;> split <;> split <;> omega
theorem zero_is {α : Type} : IsCmp (fun _ _ : α => (0 : Int)) := ⟨fun _ _ => rfl, fun _ _ _ _ _ => ⟨Int.le_refl _, fun _ => ⟨rfl, rfl⟩⟩⟩
theorem isCmp_congr {α : Type} {c d : α → α → Int} (h : IsCmp c) (e : ∀ x y, d x y = c x y) : IsCmp d := by
 have : d = c := funext fun x => funext fun y => e x y
 rw [this]; exact h
def ordN (a b : Nt) : Int := orI [Lib.compareInt a.parent b.parent, Lib.compareInt a.at1 b.at1, Lib.compareInt a.rank b.rank]
theorem ordN_is : IsCmp ordN := by
 have h1 : IsCmp fun a b : Nt => Lib.compareInt a.parent b.parent := cmpInt_is.comap Nt.parent
 have h2 : IsCmp fun a b : Nt => Lib.compareInt a.at1 b.at1 := cmpInt_is.comap Nt.at1
 have h3 : IsCmp fun a b : Nt => Lib.compareInt a.rank b.rank := cmpInt_is.comap Nt.rank
 refine isCmp_congr (or_is h1 (or_is h2 (or_is h3 zero_is))) fun x y => ?_
 unfold ordN
 rw [orI_cons, orI_cons, orI_cons]
 rfl
def sibs (tn : Nat) (l : List Nt) (id tier : Int) : List Nt := l.filter fun n => decide (n.tier = tier ∧ n.parent = id ∧ 0 ≤ tier ∧ tier < (tn : Int))
theorem sibs_next {tn : Nat} {l : List Nt} {id tier : Int} {i : Nat} {x : Nt} (hx : l[i]? = some x) : sibs tn (l.take (i + 1)) id tier = sibs tn (l.take i) id tier ++ (if x.tier = tier ∧ x.parent = id ∧ 0 ≤ tier ∧ tier < (tn : Int) then [x] else []) := by
 unfold sibs
 rw [take_at2 hx, List.filter_append, List.filter_cons]
 simp
theorem sibs_len {tn : Nat} {l : List Nt} {id tier : Int} : (sibs tn l id tier).length ≤ l.length := List.length_filter_le _ _
def insN (x : Nt) : List Nt → List Nt
 | [] => [x]
 | y :: l => if ordN x y < 0 then x :: y :: l else y :: insN x l
def sortN : List Nt → List Nt := fun l => l.foldl (fun acc x => insN x acc) []
theorem insN_split (x : Nt) : ∀ l, ∃ k, k ≤ l.length ∧ insN x l = l.take k ++ x :: l.drop k ∧ (∀ j y, j < k → l[j]? = some y → 0 ≤ ordN x y) ∧ (∀ y, l[k]? = some y → ordN x y < 0)
 | [] => ⟨0, Nat.le_refl _, rfl, fun j y h => by omega, fun y h => by simp at h⟩
 | y :: l => by
  unfold insN
  split
  ·rename_i h
   exact ⟨0, Nat.zero_le _, rfl, fun j z hj => by omega, fun z hz => by simp at hz; subst hz; exact h⟩
  ·rename_i h
   obtain ⟨k, h1, h2, h3, h4⟩ := insN_split x l
   refine ⟨k + 1, by simpa using h1, by rw [h2]; rfl, fun j z hj hz => ?_, fun z hz => by rw [List.getElem?_cons_succ] at hz; exact h4 z hz⟩
   cases j with
   | zero => simp at hz; subst hz; omega
   | succ j => rw [List.getElem?_cons_succ] at hz; exact h3 j z (by omega) hz
theorem sortN_stable (l : List Nt) : ∀ k, k ≤ l.length → StableOf ordN (l.take k) (sortN (l.take k))
 | 0, _ => by rw [List.take_zero]; exact stable_nil
 | k + 1, h => by
  have ih := sortN_stable l k (by omega)
  have hx : l[k]? = some l[k] := List.getElem?_eq_getElem (by omega)
  obtain ⟨at_, h1, h2, h3, h4⟩ := insN_split l[k] (sortN (l.take k))
  have e : sortN (l.take (k + 1)) = insN l[k] (sortN (l.take k)) := by unfold sortN; rw [take_at2 hx, List.foldl_append]; rfl
  rw [e, h2]
  refine stable_insert ordN_is ih hx h1 (fun y h0 hy => h3 _ y (by omega) hy) (fun j y hj hy => ?_)
  by_cases e2 : j = at_
  ·subst e2; exact h4 y hy
  ·obtain ⟨hj2, hyj⟩ := List.getElem?_eq_some_iff.1 hy
   have hk2 : at_ < (sortN (l.take k)).length := by omega
   have g1 := h4 _ (List.getElem?_eq_getElem hk2)
   have g2 : ordN (sortN (l.take k))[at_] y ≤ 0 := by
    rw [← hyj]
    exact List.pairwise_iff_getElem.1 ih.sorted at_ j hk2 hj2 (by omega)
   have g3 := ordN_is.trans l[k] (sortN (l.take k))[at_] y (by omega) g2
   omega
theorem sortN_of {l ys : List Nt} (h : StableOf ordN l ys) : ys = sortN l := by
 have h1 := sortN_stable l l.length (Nat.le_refl _)
 rw [List.take_length] at h1
 exact h.unique ordN_is h1
def kidsL (tn : Nat) (l : List Nt) (id tier : Int) : List Int := (sortN (sibs tn l id tier)).map Nt.nid
theorem kidsL_len {tn : Nat} {l : List Nt} {id tier : Int} : (kidsL tn l id tier).length ≤ l.length := by
 unfold kidsL
 have h1 := sortN_stable (sibs tn l id tier) _ (Nat.le_refl _)
 rw [List.take_length] at h1
 rw [List.length_map, h1.perm.length_eq]
 exact sibs_len
def ht0 : Ht := { rid := 0, nid := 0, left := [], key := ⟨#[]⟩, right := [] }
structure Ti where
 name : ByteArray
 kind : Int
 role : Int
 parent : Int
def ti0 : Ti := ⟨⟨#[]⟩, 0, 0, 0⟩
def tierT (T : List Ti) (t : Int) : Ti := T.getD t.toNat ti0
def timedK (k : Int) : Bool := decide (k = 0) || (decide (k = 1) || decide (k = 2))
def keyT (T : List Ti) (x : Nt) : Int := if timedK (tierT T x.tier).kind = true then x.at1 else x.rank
structure LightN (T : List Ti) (l : List Nt) : Prop where
 ids : l.Pairwise fun x y => x.nid < y.nid
 tier : ∀ x ∈ l, 0 ≤ x.tier ∧ x.tier < (T.length : Int)
 par : ∀ x ∈ l, ((tierT T x.tier).kind = 0 ∧ x.parent = 0) ∨ ((tierT T x.tier).kind ≠ 0 ∧ ∃ p, getN l x.parent = some p ∧ p.tier = (tierT T x.tier).parent ∧ p.tier < x.tier)
 own : ∀ x ∈ l, if timedK (tierT T x.tier).kind = true then x.rank = 0 else x.at1 = 0
 sib : ∀ x ∈ l, ∀ y ∈ l, x.tier = y.tier → x.parent = y.parent → keyT T x = keyT T y → x = y
theorem getN_mem {l : List Nt} {id : Int} {x : Nt} (h : getN l id = some x) : x ∈ l ∧ x.nid = id := by
 unfold getN at h
 exact ⟨List.mem_of_find?_eq_some h, by simpa using List.find?_some h⟩
theorem LightN.inj {T : List Ti} {l : List Nt} (h : LightN T l) {x y : Nt} (hx : x ∈ l) (hy : y ∈ l) (e : x.nid = y.nid) : x = y := by
 obtain ⟨i, hi⟩ := List.getElem?_of_mem hx
 obtain ⟨j, hj⟩ := List.getElem?_of_mem hy
 obtain ⟨hil, hix⟩ := List.getElem?_eq_some_iff.1 hi
 obtain ⟨hjl, hjy⟩ := List.getElem?_eq_some_iff.1 hj
 rcases Nat.lt_trichotomy i j with h1 | h1 | h1
 ·have := List.pairwise_iff_getElem.1 h.ids i j hil hjl h1
  rw [hix, hjy] at this; omega
 ·subst h1; rw [hi] at hj; cases hj; rfl
 ·have := List.pairwise_iff_getElem.1 h.ids j i hjl hil h1
  rw [hix, hjy] at this; omega
theorem LightN.get {T : List Ti} {l : List Nt} (h : LightN T l) {x : Nt} (hx : x ∈ l) : getN l x.nid = some x := by
 cases e : getN l x.nid with
 | none =>
  unfold getN at e
  rw [List.find?_eq_none] at e
  have := e x hx
  simp at this
 | some y =>
  obtain ⟨h1, h2⟩ := getN_mem e
  rw [h.inj h1 hx h2]
def parN (l : List Nt) (x : Nt) : Nt := (getN l x.parent).getD nt0
def befF (T : List Ti) (l : List Nt) : Nat → Nt → Nt → Bool
 | 0, _, _ => false
 | f + 1, a, b => if a.parent = b.parent then decide (keyT T a < keyT T b) else befF T l f (parN l a) (parN l b)
theorem LightN.up {T : List Ti} {l : List Nt} (h : LightN T l) {a b : Nt} {f : Nat} (ha : a ∈ l) (hb : b ∈ l) (ht : a.tier = b.tier) (hf : a.tier < ((f + 1 : Nat) : Int)) (hp : a.parent ≠ b.parent) :
  parN l a ∈ l ∧ parN l b ∈ l ∧ (parN l a).tier = (parN l b).tier ∧ (parN l a).tier < (f : Int) ∧ (parN l a).nid = a.parent ∧ (parN l b).nid = b.parent := by
 rcases h.par a ha with ⟨k0, p0⟩ | ⟨k0, p, hg, hpt, hlt⟩
 ·rcases h.par b hb with ⟨k1, p1⟩ | ⟨k1, _⟩
  ·exact absurd (p0.trans p1.symm) hp
  ·rw [ht] at k0; exact absurd k0 k1
 ·rcases h.par b hb with ⟨k1, _⟩ | ⟨_, q, hg2, hqt, hlt2⟩
  ·rw [← ht] at k1; exact absurd k1 k0
  ·have e1 : parN l a = p := by unfold parN; rw [hg]; rfl
   have e2 : parN l b = q := by unfold parN; rw [hg2]; rfl
   obtain ⟨m1, n1⟩ := getN_mem hg
   obtain ⟨m2, n2⟩ := getN_mem hg2
   rw [e1, e2]
   exact ⟨m1, m2, by rw [hpt, hqt, ht], by omega, n1, n2⟩
theorem befF_conn {T : List Ti} {l : List Nt} (h : LightN T l) : ∀ (f : Nat) (a b : Nt), a ∈ l → b ∈ l → a.tier = b.tier → a.tier < (f : Int) → a ≠ b → befF T l f a b = true ∨ befF T l f b a = true
 | 0, a, b, ha, _, _, hf, _ => by have := (h.tier a ha).1; omega
 | f + 1, a, b, ha, hb, ht, hf, hne => by
  unfold befF
  by_cases hp : a.parent = b.parent
  ·rw [if_pos hp, if_pos hp.symm, decide_eq_true_eq, decide_eq_true_eq]
   by_cases hk : keyT T a = keyT T b
   ·exact absurd (h.sib a ha b hb ht hp hk) hne
   ·omega
  ·rw [if_neg hp, if_neg fun e => hp e.symm]
   obtain ⟨m1, m2, h3, h4, n1, n2⟩ := h.up ha hb ht hf hp
   exact befF_conn h f _ _ m1 m2 h3 h4 fun e => hp (by rw [← n1, ← n2, e])
theorem befF_asym {T : List Ti} {l : List Nt} (h : LightN T l) : ∀ (f : Nat) (a b : Nt), a ∈ l → b ∈ l → a.tier = b.tier → a.tier < (f : Int) → befF T l f a b = true → befF T l f b a = true → False
 | 0, a, b, ha, _, _, hf, _, _ => by have := (h.tier a ha).1; omega
 | f + 1, a, b, ha, hb, ht, hf, h1, h2 => by
  unfold befF at h1 h2
  by_cases hp : a.parent = b.parent
  ·rw [if_pos hp, decide_eq_true_eq] at h1
   rw [if_pos hp.symm, decide_eq_true_eq] at h2
   omega
  ·rw [if_neg hp] at h1
   rw [if_neg fun e => hp e.symm] at h2
   obtain ⟨m1, m2, h3, h4, _, _⟩ := h.up ha hb ht hf hp
   exact befF_asym h f _ _ m1 m2 h3 h4 h1 h2
theorem befF_trans {T : List Ti} {l : List Nt} (h : LightN T l) : ∀ (f : Nat) (a b c : Nt), a ∈ l → b ∈ l → c ∈ l → a.tier = b.tier → b.tier = c.tier → a.tier < (f : Int) → befF T l f a b = true → befF T l f b c = true → befF T l f a c = true
 | 0, a, b, c, ha, _, _, _, _, hf, _, _ => by have := (h.tier a ha).1; omega
 | f + 1, a, b, c, ha, hb, hc, ht, ht2, hf, h1, h2 => by
  unfold befF at h1 h2 ⊢
  by_cases hp : a.parent = b.parent
  ·rw [if_pos hp, decide_eq_true_eq] at h1
   by_cases hq : b.parent = c.parent
   ·rw [if_pos hq, decide_eq_true_eq] at h2
    rw [if_pos (hp.trans hq), decide_eq_true_eq]
    omega
   ·rw [if_neg hq] at h2
    rw [if_neg fun e => hq (hp.symm.trans e)]
    rwa [show parN l a = parN l b by unfold parN; rw [hp]]
  ·rw [if_neg hp] at h1
   obtain ⟨m1, m2, h3, h4, n1, n2⟩ := h.up ha hb ht hf hp
   by_cases hq : b.parent = c.parent
   ·rw [if_neg fun e => hp (e.trans hq.symm)]
    rwa [show parN l c = parN l b by unfold parN; rw [hq]]
   ·rw [if_neg hq] at h2
    obtain ⟨_, m3, h5, _, _, n3⟩ := h.up (f := f) hb hc ht2 (by omega) hq
    by_cases hr : a.parent = c.parent
    ·exfalso
     rw [show parN l c = parN l a by unfold parN; rw [hr]] at h2
     exact befF_asym h f _ _ m1 m2 h3 h4 h1 h2
    ·rw [if_neg hr]
     exact befF_trans h f _ _ _ m1 m2 m3 h3 h5 h4 h1 h2
def posB (B : Nt → Nt → Bool) (x : Nt) (acc : List Nt) : Nat → Nat
 | 0 => 0
 | k + 1 => if B x (acc.getD k nt0) = true then posB B x acc k else k + 1
def insB (B : Nt → Nt → Bool) (x : Nt) (acc : List Nt) : List Nt := acc.take (posB B x acc acc.length) ++ x :: acc.drop (posB B x acc acc.length)
def befT (T : List Ti) (l : List Nt) : Nt → Nt → Bool := fun a b => befF T l (a.tier.toNat + 1) a b
def ofK (T : List Ti) (l : List Nt) (tier : Int) : Nat → List Nt
 | 0 => []
 | k + 1 => match l[k]? with
  | none => ofK T l tier k
  | some x => if x.tier = tier then insB (befT T l) x (ofK T l tier k) else ofK T l tier k
def ofL (T : List Ti) (l : List Nt) (tier : Int) : List Int := (ofK T l tier l.length).map Nt.nid
theorem ofK_some {T : List Ti} {l : List Nt} {tier : Int} {k : Nat} {x : Nt} (hx : l[k]? = some x) : ofK T l tier (k + 1) = if x.tier = tier then insB (befT T l) x (ofK T l tier k) else ofK T l tier k := by
 show (match l[k]? with | none => _ | some x => _) = _
 rw [hx]
theorem posB_spec {B : Nt → Nt → Bool} {x : Nt} {acc : List Nt} : ∀ k, posB B x acc k ≤ k ∧ (∀ j, posB B x acc k ≤ j → j < k → B x (acc.getD j nt0) = true) ∧ (0 < posB B x acc k → B x (acc.getD (posB B x acc k - 1) nt0) = false)
 | 0 => ⟨Nat.le_refl _, fun j _ h => by omega, fun h => by simp [posB] at h⟩
 | k + 1 => by
  obtain ⟨h1, h2, h3⟩ := posB_spec (B := B) (x := x) (acc := acc) k
  unfold posB
  by_cases hb : B x (acc.getD k nt0) = true
  ·rw [if_pos hb]
   refine ⟨by omega, fun j hj hjk => ?_, h3⟩
   by_cases e : j = k
   ·subst e; exact hb
   ·exact h2 j hj (by omega)
  ·rw [if_neg hb]
   refine ⟨Nat.le_refl _, fun j hj hjk => by omega, fun _ => ?_⟩
   rw [Nat.add_sub_cancel]
   simpa using hb
theorem insB_perm (B : Nt → Nt → Bool) (x : Nt) (acc : List Nt) : (insB B x acc).Perm (x :: acc) := by
 unfold insB
 refine List.Perm.trans List.perm_middle ?_
 rw [List.take_append_drop]
theorem ofK_perm {T : List Ti} {l : List Nt} {tier : Int} : ∀ k, k ≤ l.length → (ofK T l tier k).Perm ((l.take k).filter fun x => decide (x.tier = tier))
 | 0, _ => by simp [ofK]
 | k + 1, h => by
  have hx : l[k]? = some l[k] := List.getElem?_eq_getElem (by omega)
  have ih := ofK_perm (T := T) (l := l) (tier := tier) k (by omega)
  rw [ofK_some hx, take_at2 hx, List.filter_append, List.filter_cons]
  by_cases e : l[k].tier = tier
  ·rw [if_pos e, if_pos (by simpa using e)]
   exact ((insB_perm _ _ _).trans (ih.cons _)).trans (List.perm_append_singleton _ _).symm
  ·rw [if_neg e, if_neg (by simpa using e)]
   simpa using ih
theorem ofK_mem {T : List Ti} {l : List Nt} {tier : Int} {k : Nat} {x : Nt} (hk : k ≤ l.length) (h : x ∈ ofK T l tier k) : x ∈ l.take k ∧ x.tier = tier := by
 have := (ofK_perm k hk).mem_iff.1 h
 rw [List.mem_filter] at this
 exact ⟨this.1, by simpa using this.2⟩
theorem ofK_sorted {T : List Ti} {l : List Nt} {tier : Int} (hL : LightN T l) : ∀ k, k ≤ l.length → (ofK T l tier k).Pairwise fun a b => befT T l a b = true
 | 0, _ => List.Pairwise.nil
 | k + 1, h => by
  have hkl : k < l.length := by omega
  have hx : l[k]? = some l[k] := List.getElem?_eq_getElem hkl
  have ih := ofK_sorted (tier := tier) hL k (by omega)
  rw [ofK_some hx]
  by_cases e : l[k].tier = tier
  ·rw [if_pos e]
   obtain ⟨h1, h2, h3⟩ := posB_spec (B := befT T l) (x := l[k]) (acc := ofK T l tier k) (ofK T l tier k).length
   have hxm : l[k] ∈ l := List.getElem_mem _
   have hmem : ∀ y ∈ ofK T l tier k, y ∈ l ∧ y.tier = l[k].tier ∧ l[k] ≠ y := fun y hy => by
    obtain ⟨g1, g2⟩ := ofK_mem (by omega) hy
    refine ⟨List.mem_of_mem_take g1, by rw [g2, e], fun e2 => ?_⟩
    obtain ⟨j, hj⟩ := List.getElem?_of_mem g1
    rw [List.getElem?_take] at hj
    split at hj
    ·rename_i hjk
     obtain ⟨hjl, hjy⟩ := List.getElem?_eq_some_iff.1 hj
     have := List.pairwise_iff_getElem.1 hL.ids j k hjl hkl hjk
     rw [hjy, e2] at this
     omega
    ·cases hj
   have hlt : l[k].tier < ((l[k].tier.toNat + 1 : Nat) : Int) := by omega
   unfold insB
   obtain ⟨p, hp⟩ : ∃ p, posB (befT T l) l[k] (ofK T l tier k) (ofK T l tier k).length = p := ⟨_, rfl⟩
   rw [hp] at h1 h2 h3 ⊢
   obtain ⟨acc, hacc⟩ : ∃ acc, ofK T l tier k = acc := ⟨_, rfl⟩
   rw [hacc] at ih h1 h2 h3 hmem ⊢
   have ih0 := ih
   rw [← List.take_append_drop p acc, List.pairwise_append] at ih
   have hleft : ∀ y ∈ acc.take p, befT T l y l[k] = true := fun y hy => by
    have hp0 : 0 < p := by
     rcases Nat.eq_zero_or_pos p with e0 | e0
     ·subst e0; simp at hy
     ·exact e0
    have hpl : p - 1 < acc.length := by omega
    obtain ⟨m1, m2, m3⟩ := hmem _ (List.getElem_mem hpl)
    have hb := h3 hp0
    rw [List.getD, List.getElem?_eq_getElem hpl] at hb
    have hlast : befT T l acc[p - 1] l[k] = true := by
     unfold befT at hb ⊢
     rw [m2]
     rcases befF_conn hL _ _ _ hxm m1 m2.symm hlt m3 with g | g
     ·rw [show befF T l (l[k].tier.toNat + 1) l[k] acc[p - 1] = false from hb] at g; cases g
     ·exact g
    obtain ⟨j, hj⟩ := List.getElem?_of_mem hy
    rw [List.getElem?_take] at hj
    split at hj
    ·rename_i hjp
     obtain ⟨hjl, hjy⟩ := List.getElem?_eq_some_iff.1 hj
     by_cases ej : j = p - 1
     ·subst ej; rw [← hjy]; exact hlast
     ·have g := List.pairwise_iff_getElem.1 ih0 j (p - 1) hjl hpl (by omega)
      rw [hjy] at g
      obtain ⟨y1, y2, _⟩ := hmem y (by rw [← hjy]; exact List.getElem_mem _)
      unfold befT at g hlast ⊢
      rw [y2] at g ⊢
      rw [m2] at hlast
      exact befF_trans hL _ _ _ _ y1 m1 hxm (by rw [y2, m2]) m2 (by omega) g hlast
    ·cases hj
   have hright : ∀ y ∈ acc.drop p, befT T l l[k] y = true := fun y hy => by
    obtain ⟨j, hj⟩ := List.getElem?_of_mem hy
    rw [List.getElem?_drop] at hj
    obtain ⟨hjl, hjy⟩ := List.getElem?_eq_some_iff.1 hj
    have := h2 (p + j) (by omega) hjl
    rw [List.getD, hj] at this
    exact this
   rw [List.pairwise_append]
   refine ⟨ih.1, List.pairwise_cons.2 ⟨hright, ih.2.1⟩, fun y hy z hz => ?_⟩
   rcases List.mem_cons.1 hz with rfl | hz
   ·exact hleft y hy
   ·exact ih.2.2 y hy z hz
  ·rw [if_neg e]; exact ih
theorem compareInt_zero {a b : Int} (h : Lib.compareInt a b = 0) : a = b := by
 unfold Lib.compareInt at h
 split at h
 ·cases h
 ·split at h
  ·cases h
  ·omega
theorem ordN_zero {a b : Nt} (h : ordN a b = 0) : a.parent = b.parent ∧ a.at1 = b.at1 ∧ a.rank = b.rank := by
 unfold ordN at h
 rw [orI_cons, orI_cons, orI_cons] at h
 by_cases h1 : Lib.compareInt a.parent b.parent = 0
 ·rw [if_pos h1] at h
  by_cases h2 : Lib.compareInt a.at1 b.at1 = 0
  ·rw [if_pos h2] at h
   by_cases h3 : Lib.compareInt a.rank b.rank = 0
   ·exact ⟨compareInt_zero h1, compareInt_zero h2, compareInt_zero h3⟩
   ·rw [if_neg h3] at h; exact absurd h h3
  ·rw [if_neg h2] at h; exact absurd h h2
 ·rw [if_neg h1] at h; exact absurd h h1
theorem ordN_le {T : List Ti} {l : List Nt} (hL : LightN T l) {a b : Nt} (ha : a ∈ l) (hb : b ∈ l) (ht : a.tier = b.tier) (hp : a.parent = b.parent) (h : befT T l a b = true) : ordN a b ≤ 0 := by
 unfold befT befF at h
 rw [if_pos hp, decide_eq_true_eq] at h
 have o1 := hL.own a ha
 have o2 := hL.own b hb
 unfold keyT at h
 rw [← ht] at h o2
 unfold ordN
 rw [orI_cons, orI_cons, orI_cons, show Lib.compareInt a.parent b.parent = 0 by rw [hp]; unfold Lib.compareInt; simp, if_pos rfl]
 by_cases hk : timedK (tierT T a.tier).kind = true
 ·rw [if_pos hk] at o1 o2
  rw [if_pos hk, if_pos hk] at h
  rw [show Lib.compareInt a.at1 b.at1 = -1 by unfold Lib.compareInt; rw [if_pos h], if_neg (by decide)]
  decide
 ·rw [if_neg hk] at o1 o2
  rw [if_neg hk, if_neg hk] at h
  rw [show Lib.compareInt a.at1 b.at1 = 0 by rw [o1, o2]; rfl, if_pos rfl, show Lib.compareInt a.rank b.rank = -1 by unfold Lib.compareInt; rw [if_pos h], if_neg (by decide)]
  decide
theorem ofK_sibs {T : List Ti} {l : List Nt} (hL : LightN T l) (id tier : Int) (ht : 0 ≤ tier ∧ tier < (T.length : Int)) : (ofK T l tier l.length).filter (fun x => decide (x.parent = id)) = sortN (sibs T.length l id tier) := by
 have hst := sortN_stable (sibs T.length l id tier) _ (Nat.le_refl _)
 rw [List.take_length] at hst
 have hperm : ((ofK T l tier l.length).filter fun x => decide (x.parent = id)).Perm (sibs T.length l id tier) := by
  have h1 := (ofK_perm (T := T) (l := l) (tier := tier) l.length (Nat.le_refl _)).filter fun x => decide (x.parent = id)
  rw [List.take_length, List.filter_filter] at h1
  refine h1.trans ?_
  unfold sibs
  rw [show (fun n : Nt => decide (n.tier = tier ∧ n.parent = id ∧ 0 ≤ tier ∧ tier < (T.length : Int))) = fun a : Nt => decide (a.parent = id) && decide (a.tier = tier) from funext fun n => by
   by_cases e1 : n.parent = id <;> by_cases e2 : n.tier = tier <;> simp [e1, e2, ht.1, ht.2]]
 have hmem : ∀ x, x ∈ sibs T.length l id tier → x ∈ l ∧ x.tier = tier ∧ x.parent = id := fun x hx => by
  unfold sibs at hx
  rw [List.mem_filter, decide_eq_true_eq] at hx
  exact ⟨hx.1, hx.2.1, hx.2.2.1⟩
 refine List.Perm.eq_of_pairwise (le := fun a b => ordN a b ≤ 0) (fun a b ha hb h1 h2 => ?_) ?_ hst.sorted (hperm.trans hst.perm.symm)
 ·obtain ⟨a1, a2, a3⟩ := hmem a (hperm.mem_iff.1 ha)
  obtain ⟨b1, b2, b3⟩ := hmem b (hst.perm.mem_iff.1 hb)
  have h3 := ordN_is.anti a b
  obtain ⟨e1, e2, e3⟩ := ordN_zero (a := a) (b := b) (by omega)
  refine hL.sib a a1 b b1 (by rw [a2, b2]) (by rw [a3, b3]) ?_
  unfold keyT
  rw [a2, b2, e2, e3]
 ·have h1 := (ofK_sorted (tier := tier) hL l.length (Nat.le_refl _)).filter fun x => decide (x.parent = id)
  refine List.Pairwise.imp_of_mem ?_ h1
  intro a b ha hb h2
  obtain ⟨a1, a2, a3⟩ := hmem a (hperm.mem_iff.1 ha)
  obtain ⟨b1, b2, b3⟩ := hmem b (hperm.mem_iff.1 hb)
  exact ordN_le hL a1 b1 (by rw [a2, b2]) (by rw [a3, b3]) h2
end Go.Proofs.YthcabnfcgjnlnaaGreatDoor
namespace Go.Proofs.YthcabnfcgjnlnaaGreatDoor
open Go.RowKit Ru Lay
attribute [local go_sem ↓] Go.wp_at_zero Go.wp_at_succ
def encT (t : Ti) : List Value := [.string t.name, .int .i64 t.kind, .int .i64 t.role, .int .i64 t.parent]
theorem encT_len (t : Ti) : (encT t).length = 4 := rfl
def TiersR (w : World) (B : Nat) (A : Option Addr) (n : Nat) (l : List Ti) : Prop := RecR encT 4 w B A n l ∧ ∀ t ∈ l, t.name.size ≤ 9223372036854775807
theorem TiersR.len {w : World} {B n : Nat} {A : Option Addr} {l : List Ti} (hh : TiersR w B A n l) : l.length = n := hh.1.2
theorem TiersR.below {w w' : World} {B n : Nat} {A : Option Addr} {l : List Ti} (hh : TiersR w B A n l) (hb : Below B w w') : TiersR w' B A n l := ⟨RecR.below hh.1 hb, hh.2⟩
theorem TiersR.on {w w' : World} {n : Nat} {A : Option Addr} {l : List Ti} (hh : TiersR w w.heap.size A n l) (hb : Below w.heap.size w w') : TiersR w' w'.heap.size A n l := ⟨RecR.on hh.1 hb, hh.2⟩
theorem TiersR.at_ {w : World} {B n k : Nat} {A : Option Addr} {l : List Ti} (hh : TiersR w B A n l) (hk : k < n) :
  ∃ ad x, A = some ad ∧ ad.block < B ∧ l[k]? = some x ∧ x.name.size ≤ 9223372036854775807 ∧ ∀ W, Below B w W → W.cell? (ad.add (k * 4)) = some (.string x.name) ∧ W.cell? ⟨(ad.add (k * 4)).block, (ad.add (k * 4)).off + 1, none⟩ = some (.int .i64 x.kind) ∧
   W.cell? ⟨(ad.add (k * 4)).block, (ad.add (k * 4)).off + 2, none⟩ = some (.int .i64 x.role) ∧ W.cell? ⟨(ad.add (k * 4)).block, (ad.add (k * 4)).off + 3, none⟩ = some (.int .i64 x.parent) := by
 obtain ⟨ad, x, e, hb, hx, _, _⟩ := RecR.at_ encT_len (by omega) hh.1 hk
 refine ⟨ad, x, e, hb, hx, hh.2 x (List.mem_of_getElem? hx), fun W hW => ?_⟩
 obtain ⟨ad', x', e', _, hx', h0, hj⟩ := RecR.at_ encT_len (by omega) (RecR.below hh.1 hW) hk
 rw [e] at e'
 cases e'
 rw [hx] at hx'
 cases hx'
 exact ⟨h0 _ rfl, hj 1 _ (by omega) rfl, hj 2 _ (by omega) rfl, hj 3 _ (by omega) rfl⟩
def kind11 (r : Int) : Int := if r = 1 then 0 else if r = 3 then 3 else if r = 4 then 4 else if r = 5 then 4 else -1
def TOk0 (t : Ti) (i : Nat) : Prop := (0 ≤ t.kind ∧ t.kind ≤ 4) ∧ ((t.kind = 0 ∧ t.parent = -1) ∨ (t.kind ≠ 0 ∧ 0 ≤ t.parent ∧ t.parent < (i : Int)))
def TOk (t : Ti) (i : Nat) : Prop := TOk0 t i ∧ (0 ≤ kind11 t.role → t.kind = kind11 t.role)
def PlOk (T : List Ti) (l : List Nt) (x : Nt) : Prop :=
 (((tierT T x.tier).kind = 0 ∧ x.parent = 0) ∨ ((tierT T x.tier).kind ≠ 0 ∧ ∃ p, getN l x.parent = some p ∧ p.tier = (tierT T x.tier).parent)) ∧
 (timedK (tierT T x.tier).kind = true → x.at1 < x.at2) ∧ (timedK (tierT T x.tier).kind = false → x.at1 = 0 ∧ x.at2 = 0) ∧ (x.rank = 0 ∨ (tierT T x.tier).kind = 3)
end Go.Proofs.YthcabnfcgjnlnaaGreatDoor
