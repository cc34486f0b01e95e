import Derived.Test.YthcabnfcgjnlnaaGreatDoorK20
import Derived.Lib.SmallJoins
import Derived.Maps.OwnOps
import Derived.Maps.Views
import Derived.DeepKeys4
/-
  STATEMENTS of a grammar and their references, as they are read; rows of references of the call's own.
-/
namespace Go.Proofs.YthcabnfcgjnlnaaGreatDoor
open Go.RowKit Ru Lay
set_option linter.unusedVariables false
set_option linter.unusedSimpArgs false

def encR (r : Rf) : List Value := [.int .i64 r.1, .int .i64 r.2]
theorem encR_len (r : Rf) : (encR r).length = 2 := rfl
/-- A reference whose numbers are Go's. -/
def RfOk (r : Rf) : Prop := (Lit.int .i64 r.1).wf = true ∧ (Lit.int .i64 r.2).wf = true
def RefsR (w : World) (B : Nat) (A : Option Addr) (n : Nat) (l : List Rf) : Prop := RecR encR 2 w B A n l
def RfO (w : World) (base : Nat) (v : Value) (l : List Rf) : Prop := OwnR encR 2 24 w base v l
theorem info_ref : (Tryz.prog.info? 24).map (fun i => (i.zero, i.size, i.bytes)) = some (some (.agg #[.int .i64 0, .int .i64 0]), 2, 16) := by kernel_rfl
theorem RefsR.on {w w' : World} {n : Nat} {A : Option Addr} {l : List Rf} (h : RefsR w w.heap.size A n l) (hb : Below w.heap.size w w') : RefsR w' w'.heap.size A n l := RecR.on h hb
theorem RefsR.below {w w' : World} {B n : Nat} {A : Option Addr} {l : List Rf} (h : RefsR w B A n l) (hb : Below B w w') : RefsR w' B A n l := RecR.below h hb
theorem RefsR.more {w : World} {B B' n : Nat} {A : Option Addr} {l : List Rf} (h : RefsR w B A n l) (hB : B ≤ B') : RefsR w B' A n l := ⟨h.1.more hB, h.2⟩
theorem RefsR.len {w : World} {B n : Nat} {A : Option Addr} {l : List Rf} (h : RefsR w B A n l) : l.length = n := h.2
theorem RefsR.at_ {w : World} {B n k : Nat} {A : Option Addr} {l : List Rf} (hh : RefsR w B A n l) (hk : k < n) :
    ∃ ad x, A = some ad ∧ ad.block < B ∧ l[k]? = some x ∧ ∀ W, Below B w W → W.cell? (ad.add (k * 2)) = some (.int .i64 x.1) ∧ W.cell? ⟨(ad.add (k * 2)).block, (ad.add (k * 2)).off + 1, none⟩ = some (.int .i64 x.2) := by
  obtain ⟨ad, x, e, hb, hx, _, _⟩ := RecR.at_ encR_len (by omega) hh hk
  refine ⟨ad, x, e, hb, hx, fun W hW => ?_⟩
  obtain ⟨ad', x', e', _, hx', h0, hj⟩ := RecR.at_ encR_len (by omega) (RecR.below hh hW) hk
  rw [e] at e'
  cases e'
  rw [hx] at hx'
  cases hx'
  exact ⟨h0 _ rfl, hj 1 _ (by omega) rfl⟩
theorem RfO.form {w : World} {base : Nat} {v : Value} {l : List Rf} (h : RfO w base v l) : ∃ A c, v = .slice A l.length c ∧ l.length ≤ c ∧ c ≤ 9223372036854775807 ∧ RefsR w w.heap.size A l.length l := OwnR.form h
theorem RfO.on {w w' : World} {base : Nat} {v : Value} {l : List Rf} (h : RfO w base v l) (hb : Below w.heap.size w w') : RfO w' base v l := OwnR.on h hb
/-- A statement, and where its lists lie. -/
structure Pt where
  pid : Int
  title : ByteArray
  text : ByteArray
  ea : Option Addr
  en : Nat
  ec : Nat
  ra : Option Addr
  rn : Nat
  rc : Nat
  refs : List Rf
def encP (p : Pt) : List Value := [.int .i64 p.pid, .string p.title, .string p.text, .slice p.ea p.en p.ec, .slice p.ra p.rn p.rc]
theorem encP_len (p : Pt) : (encP p).length = 5 := rfl
structure PtR (w : World) (B : Nat) (p : Pt) : Prop where
  refs : RefsR w B p.ra p.rn p.refs
  ok : ∀ r ∈ p.refs, RfOk r
  size : p.title.size ≤ 9223372036854775807 ∧ p.text.size ≤ 9223372036854775807 ∧ p.rn ≤ 9223372036854775807
theorem PtR.below {w w' : World} {B : Nat} {p : Pt} (h : PtR w B p) (hb : Below B w w') : PtR w' B p := ⟨h.refs.below hb, h.ok, h.size⟩
theorem PtR.more {w : World} {B B' : Nat} {p : Pt} (h : PtR w B p) (hB : B ≤ B') : PtR w B' p := ⟨h.refs.more hB, h.ok, h.size⟩
/-- A slice of statements, as it is read. -/
def PtsR (w : World) (B : Nat) (A : Option Addr) (n : Nat) (l : List Pt) : Prop := RecR encP 5 w B A n l ∧ ∀ p ∈ l, PtR w B p
theorem PtsR.below {w w' : World} {B n : Nat} {A : Option Addr} {l : List Pt} (h : PtsR w B A n l) (hb : Below B w w') : PtsR w' B A n l := ⟨h.1.below hb, fun p hp => (h.2 p hp).below hb⟩
theorem PtsR.more {w : World} {B B' n : Nat} {A : Option Addr} {l : List Pt} (h : PtsR w B A n l) (hB : B ≤ B') : PtsR w B' A n l := ⟨⟨h.1.1.more hB, h.1.2⟩, fun p hp => (h.2 p hp).more hB⟩
theorem PtsR.on {w w' : World} {n : Nat} {A : Option Addr} {l : List Pt} (h : PtsR w w.heap.size A n l) (hb : Below w.heap.size w w') : PtsR w' w'.heap.size A n l := (h.below hb).more hb.size
theorem PtsR.len {w : World} {B n : Nat} {A : Option Addr} {l : List Pt} (h : PtsR w B A n l) : l.length = n := h.1.2
theorem PtsR.at_ {w : World} {B n k : Nat} {A : Option Addr} {l : List Pt} (hh : PtsR w B A n l) (hk : k < n) :
    ∃ ad x, A = some ad ∧ ad.block < B ∧ l[k]? = some x ∧ PtR w B x ∧ ∀ W, Below B w W → W.cell? (ad.add (k * 5)) = some (.int .i64 x.pid) ∧ W.cell? ⟨(ad.add (k * 5)).block, (ad.add (k * 5)).off + 1, none⟩ = some (.string x.title) ∧
      W.cell? ⟨(ad.add (k * 5)).block, (ad.add (k * 5)).off + 2, none⟩ = some (.string x.text) ∧ W.cell? ⟨(ad.add (k * 5)).block, (ad.add (k * 5)).off + 3, none⟩ = some (.slice x.ea x.en x.ec) ∧
      W.cell? ⟨(ad.add (k * 5)).block, (ad.add (k * 5)).off + 4, none⟩ = some (.slice x.ra x.rn x.rc) := by
  obtain ⟨ad, x, e, hb, hx, _, _⟩ := RecR.at_ encP_len (by omega) hh.1 hk
  refine ⟨ad, x, e, hb, hx, hh.2 x (List.mem_of_getElem? hx), fun W hW => ?_⟩
  obtain ⟨ad', x', e', _, hx', h0, hj⟩ := RecR.at_ encP_len (by omega) (RecR.below hh.1 hW) hk
  rw [e] at e'
  cases e'
  rw [hx] at hx'
  cases hx'
  exact ⟨h0 _ rfl, hj 1 _ (by omega) rfl, hj 2 _ (by omega) rfl, hj 3 _ (by omega) rfl, hj 4 _ (by omega) rfl⟩
/-- All references of statements, in order. -/
def allR (l : List Pt) : List Rf := l.flatMap Pt.refs
theorem allR_next {l : List Pt} {i : Nat} {p : Pt} (h : l[i]? = some p) : allR (l.take (i + 1)) = allR (l.take i) ++ p.refs := by
  unfold allR
  rw [List.take_add_one, h]
  simp [List.flatMap_append]
end Go.Proofs.YthcabnfcgjnlnaaGreatDoor
/-
  PLAIN LAW: the lines of the statements of a grammar. No program in sight (but for what the records are called).
-/
set_option linter.unusedVariables false
set_option linter.unusedSimpArgs false
namespace Go.Proofs.YthcabnfcgjnlnaaGreatDoor
open Go.RowKit Ru Lay Srt Col

def headB (i : Nat) (p : Pt) : ByteArray := itoaB ((i : Int) + 1) ++ ⟨#[46, 32]⟩ ++ p.title
def refB (out : List Rf) (r : Rf) : ByteArray := ⟨#[32, 32, 40]⟩ ++ itoaB (numR out r) ++ ⟨#[41, 32, 91]⟩ ++ itoaB r.1 ++ ⟨#[46]⟩ ++ itoaB r.2 ++ ⟨#[93]⟩
/-- The lines of the example of a reference. -/
def exC (WD : Int) (o : Option Dc) (id : Int) : List ByteArray := match o with
  | none => []
  | some x => exL x.T x.l id x.T.length WD
def refL (out : List Rf) (D : List Dc) (WD : Int) (r : Rf) : List ByteArray := refB out r :: (exC WD (docF D r.1) r.2).map indB
def txtL (p : Pt) : List ByteArray := if p.text.size = 0 then [] else [p.text]
def ptL (out : List Rf) (D : List Dc) (WD : Int) (i : Nat) (p : Pt) : List ByteArray := headB i p :: (txtL p ++ p.refs.flatMap (refL out D WD))
def linesM (out : List Rf) (D : List Dc) (WD : Int) (L : List Pt) : Nat → List ByteArray
  | 0 => []
  | i + 1 => linesM out D WD L i ++ (match L[i]? with | none => [] | some p => ptL out D WD i p)
def linesG (D : List Dc) (L : List Pt) (WD : Int) : List ByteArray := linesM (numsF [] (allR L)) D WD L L.length
theorem linesM_next {out : List Rf} {D : List Dc} {WD : Int} {L : List Pt} {i : Nat} {p : Pt} (h : L[i]? = some p) : linesM out D WD L (i + 1) = linesM out D WD L i ++ ptL out D WD i p := by
  show linesM out D WD L i ++ (match L[i]? with | none => [] | some p => ptL out D WD i p) = _
  rw [h]
theorem exL_len {T : List Ti} {l : List Nt} {id : Int} {K : Nat} {WD : Int} (h : l.length ≤ 20) : (exL T l id K WD).length ≤ 120 := by
  unfold exL
  split
  · rw [List.length_append, List.length_map]
    have h1 := wrapL_short (W := WD) (rowsL_few T l id K h)
    have h2 : (kidF T l id (roleT T 5)).length ≤ 20 := by
      unfold kidF
      have h3 := List.length_filter_le (fun k => decide (((getN l k).getD nt0).parent = id)) (ofI T l (roleT T 5))
      have h4 := ofI_len (T := T) (l := l) (t := roleT T 5)
      omega
    omega
  · exact Nat.zero_le _
theorem exC_len {D : List Dc} (h : ∀ x ∈ D, x.l.length ≤ 20) (WD : Int) (rec id : Int) : (exC WD (docF D rec) id).length ≤ 120 := by
  unfold exC
  cases e : docF D rec with
  | none => exact Nat.zero_le _
  | some x => exact exL_len (h x (docF_mem e).1)
theorem refL_len {out : List Rf} {D : List Dc} (h : ∀ x ∈ D, x.l.length ≤ 20) (WD : Int) (r : Rf) : (refL out D WD r).length ≤ 121 := by
  unfold refL
  rw [List.length_cons, List.length_map]
  have := exC_len h WD r.1 r.2
  omega
theorem flatG_le {out : List Rf} {D : List Dc} (h : ∀ x ∈ D, x.l.length ≤ 20) (WD : Int) : ∀ (rs : List Rf), (rs.flatMap (refL out D WD)).length ≤ rs.length * 121
  | [] => by simp
  | r :: rs => by
    rw [List.flatMap_cons, List.length_append, List.length_cons, Nat.succ_mul]
    have h1 := flatG_le h WD rs (out := out)
    have h2 := refL_len h WD r (out := out)
    omega
theorem txtL_len (p : Pt) : (txtL p).length ≤ 1 := by
  unfold txtL
  split
  · exact Nat.zero_le _
  · exact Nat.le_refl _
theorem ptL_len {out : List Rf} {D : List Dc} (h : ∀ x ∈ D, x.l.length ≤ 20) (WD : Int) (i : Nat) {p : Pt} (hp : p.refs.length ≤ 1000) : (ptL out D WD i p).length ≤ 122000 := by
  unfold ptL
  rw [List.length_cons, List.length_append]
  have h1 := flatG_le h WD p.refs (out := out)
  have h2 := txtL_len p
  have : p.refs.length * 121 ≤ 1000 * 121 := Nat.mul_le_mul_right _ hp
  omega
theorem linesM_le {out : List Rf} {D : List Dc} {WD : Int} {L : List Pt} {c : Nat} (h : ∀ i p, p ∈ L → (ptL out D WD i p).length ≤ c) : ∀ i, (linesM out D WD L i).length ≤ i * c
  | 0 => by simp [linesM]
  | i + 1 => by
    show (linesM out D WD L i ++ (match L[i]? with | none => [] | some p => ptL out D WD i p)).length ≤ _
    have h1 := linesM_le h i
    rw [List.length_append, Nat.succ_mul]
    cases e : L[i]? with
    | none => exact Nat.add_le_add h1 (Nat.zero_le _)
    | some p => exact Nat.add_le_add h1 (h i p (List.mem_of_getElem? e))
theorem linesM_len {out : List Rf} {D : List Dc} (h : ∀ x ∈ D, x.l.length ≤ 20) (WD : Int) {L : List Pt} (hp : ∀ p ∈ L, p.refs.length ≤ 1000) (i : Nat) : (linesM out D WD L i).length ≤ i * 122000 :=
  linesM_le (fun i p hm => ptL_len h WD i (hp p hm)) i
theorem flat_next {α : Type} (f : Rf → List α) {rs : List Rf} {j : Nat} {r : Rf} (h : rs[j]? = some r) : (rs.take (j + 1)).flatMap f = (rs.take j).flatMap f ++ f r := by
  rw [List.take_add_one, h, List.flatMap_append]
  simp
theorem map_nextB {α β : Type} (f : α → β) {ws : List α} {i : Nat} {x : α} (h : ws[i]? = some x) : (ws.take (i + 1)).map f = (ws.take i).map f ++ [f x] := by
  rw [List.take_add_one, h, List.map_append]
  rfl
end Go.Proofs.YthcabnfcgjnlnaaGreatDoor
namespace Go.Proofs.YthcabnfcgjnlnaaGreatDoor
open Go.RowKit
set_option linter.unusedVariables false
set_option linter.unusedSimpArgs false

/-- A slice of units reads as U. -/
def UnitsR (w : World) (B : Nat) (A : Option Addr) (n : Nat) (U : List (ByteArray × List Int)) : Prop :=
  U.length = n ∧ (0 < n → ∃ ad, A = some ad ∧ ad.block < B ∧ ∀ k x, U[k]? = some x → w.cell? (ad.add (k * 2)) = some (.string x.1) ∧
    ∃ A' n' c', w.cell? (ad.add (k * 2 + 1)) = some (.slice A' n' c') ∧ Reads w B 1 A' n' (x.2.map (.int .i64)))
theorem UnitsR.below {w w' : World} {B : Nat} {A : Option Addr} {n : Nat} {U : List (ByteArray × List Int)} (h : UnitsR w B A n U) (hb : Below B w w') : UnitsR w' B A n U :=
  ⟨h.1, fun hn => by
    obtain ⟨ad, e, hlt, hc⟩ := h.2 hn
    refine ⟨ad, e, hlt, fun k x hx => ?_⟩
    obtain ⟨h1, A', n', c', h2, h3⟩ := hc k x hx
    exact ⟨(hb.cell (by rw [block_of_add]; exact hlt)).trans h1, A', n', c', (hb.cell (by rw [block_of_add]; exact hlt)).trans h2, h3.below hb⟩⟩
theorem UnitsR.more {w : World} {B B' : Nat} {A : Option Addr} {n : Nat} {U : List (ByteArray × List Int)} (h : UnitsR w B A n U) (hB : B ≤ B') : UnitsR w B' A n U :=
  ⟨h.1, fun hn => by
    obtain ⟨ad, e, hlt, hc⟩ := h.2 hn
    refine ⟨ad, e, by omega, fun k x hx => ?_⟩
    obtain ⟨h1, A', n', c', h2, h3⟩ := hc k x hx
    exact ⟨h1, A', n', c', h2, h3.more hB⟩⟩
def graph (U : List (ByteArray × List Int)) (i : Nat) : ByteArray := (U.getD i (⟨#[]⟩, [])).1
def usegs (U : List (ByteArray × List Int)) (i : Nat) : List Int := (U.getD i (⟨#[]⟩, [])).2
theorem UnitsR.at_ {w : World} {B : Nat} {A : Option Addr} {n k : Nat} {U : List (ByteArray × List Int)} (h : UnitsR w B A n U) (hk : k < n) :
    ∃ ad A' n' c', A = some ad ∧ ad.block < B ∧ w.cell? (ad.add (k * 2)) = some (.string (graph U k)) ∧ w.cell? ⟨(ad.add (k * 2)).block, (ad.add (k * 2)).off + 1, none⟩ = some (.slice A' n' c') ∧
      w.cell? (ad.add (k * 2 + 1)) = some (.slice A' n' c') ∧ w.cell? ((ad.add (k * 2)).add 1) = some (.slice A' n' c') ∧ Reads w B 1 A' n' ((usegs U k).map (.int .i64)) := by
  obtain ⟨ad, e, hlt, hc⟩ := h.2 (by omega)
  have hl : k < U.length := by rw [h.1]; exact hk
  obtain ⟨h1, A', n', c', h2, h3⟩ := hc k U[k] (List.getElem?_eq_getElem hl)
  have g1 : graph U k = U[k].1 := by simp [graph, List.getD, hl]
  have g2 : usegs U k = U[k].2 := by simp [usegs, List.getD, hl]
  have h4 : w.cell? ((ad.add (k * 2)).add 1) = some (.slice A' n' c') := by rw [add_of_add]; exact h2
  exact ⟨ad, A', n', c', e, hlt, by rw [g1]; exact h1, field_at (by omega) h4, h2, h4, by rw [g2]; exact h3⟩
/-- The three boxes of 'unit'. -/
structure UBox (w wr : World) (SA : Option Addr) (sn sc : Nat) (ad : Addr) (n c : Nat) (g : ByteArray) (A' : Option Addr) (n' c' : Nat) : Prop where
  inv : wr.cell? ⟨w.heap.size, 0, none⟩ = some (.slice SA sn sc)
  units : wr.cell? ⟨w.heap.size + 1, 1, none⟩ = some (.slice (some ad) n c)
  graph : wr.cell? ⟨w.heap.size + 1 + 1, 0, none⟩ = some (.string g)
  segs : wr.cell? ⟨w.heap.size + 1 + 1, 1, none⟩ = some (.slice A' n' c')
theorem UBox.on {w wr w' : World} {SA : Option Addr} {sn sc : Nat} {ad : Addr} {n c : Nat} {g : ByteArray} {A' : Option Addr} {n' c' : Nat} (h : UBox w wr SA sn sc ad n c g A' n' c') (hb : Below (w.heap.size + 1 + 1 + 1) wr w') : UBox w w' SA sn sc ad n c g A' n' c' :=
  ⟨(hb.cell (by show w.heap.size < _; omega)).trans h.inv, (hb.cell (by show w.heap.size + 1 < _; omega)).trans h.units, (hb.cell (by show w.heap.size + 1 + 1 < _; omega)).trans h.graph, (hb.cell (by show w.heap.size + 1 + 1 < _; omega)).trans h.segs⟩
theorem UBox.drewN {w wr : World} {SA : Option Addr} {sn sc : Nat} {ad : Addr} {n c : Nat} {g : ByteArray} {A' : Option Addr} {n' c' : Nat} (h : UBox w wr SA sn sc ad n c g A' n' c') (k : Nat) : UBox w (wr.drewN k) SA sn sc ad n c g A' n' c' := ⟨h.inv, h.units, h.graph, h.segs⟩
end Go.Proofs.YthcabnfcgjnlnaaGreatDoor
namespace Go.Proofs.YthcabnfcgjnlnaaGreatDoor
open Go.RowKit
set_option linter.unusedVariables false
set_option linter.unusedSimpArgs false

/-- The two boxes of 'Check'. -/
structure CBox (w wr : World) (SA : Option Addr) (sn sc : Nat) (nm : ByteArray) (UA : Option Addr) (un uc : Nat) (LA : Option Addr) (ln lc : Nat) : Prop where
  inv : wr.cell? ⟨w.heap.size, 0, none⟩ = some (.slice SA sn sc)
  name : wr.cell? ⟨w.heap.size + 1, 0, none⟩ = some (.string nm)
  units : wr.cell? ⟨w.heap.size + 1, 1, none⟩ = some (.slice UA un uc)
  letters : wr.cell? ⟨w.heap.size + 1, 2, none⟩ = some (.slice LA ln lc)
theorem CBox.on {w wr w' : World} {SA : Option Addr} {sn sc : Nat} {nm : ByteArray} {UA : Option Addr} {un uc : Nat} {LA : Option Addr} {ln lc : Nat} (h : CBox w wr SA sn sc nm UA un uc LA ln lc) (hb : Below (w.heap.size + 1 + 1) wr w') : CBox w w' SA sn sc nm UA un uc LA ln lc :=
  ⟨(hb.cell (by show w.heap.size < _; omega)).trans h.inv, (hb.cell (by show w.heap.size + 1 < _; omega)).trans h.name, (hb.cell (by show w.heap.size + 1 < _; omega)).trans h.units, (hb.cell (by show w.heap.size + 1 < _; omega)).trans h.letters⟩

end Go.Proofs.YthcabnfcgjnlnaaGreatDoor
namespace Go.Proofs.YthcabnfcgjnlnaaGreatDoor
open Go.RowKit
set_option linter.unusedVariables false
set_option linter.unusedSimpArgs false

theorem RowsR.up {w : World} {B B' : Nat} {A : Option Addr} {n : Nat} {L : List (List ByteArray)} (h : RowsR w B A n L) (hB : B ≤ B') : RowsR w B' A n L := by
  obtain ⟨xs, hr, hl, hi⟩ := h
  refine ⟨xs, hr.more hB, hl, fun i l hil => ?_⟩
  obtain ⟨A', n', c', hx', hs⟩ := hi i l hil
  exact ⟨A', n', c', hx', Reads.more hs hB⟩
end Go.Proofs.YthcabnfcgjnlnaaGreatDoor
/-
  OPENING a slice of lines among the arguments.
-/
namespace Go.Proofs.YthcabnfcgjnlnaaGreatDoor
open Go.RowKit Go.ChangeShapes Go.WideShapes Go.ChangeAt Go.Deep Go.Joins Ru Lay
set_option linter.unusedVariables false
set_option linter.unusedSimpArgs false

instance instHvOpen : Inhabited Hv := ⟨{ toHt := ⟨0, 0, [], ⟨#[]⟩, []⟩, la := none, ln := 0, lc := 0, ra := none, rn := 0, rc := 0 }⟩
section
variable {H : Type} {enc : TypeId × Value → H} {w : World} {spare : Nat → Bool} {held : Bool} {fuel : Nat} {v : Value} {x : DataW H × List MemPlace}
end
end Go.Proofs.YthcabnfcgjnlnaaGreatDoor
/-
  OPENING a document among the arguments.
-/
namespace Go.Proofs.YthcabnfcgjnlnaaGreatDoor
open Go.RowKit Go.ChangeShapes Go.WideShapes Go.ChangeAt Go.Deep Go.Joins Ru Lay
set_option linter.unusedVariables false
set_option linter.unusedSimpArgs false

instance instNtOpen : Inhabited Nt := ⟨nt0⟩
instance instTiOpen : Inhabited Ti := ⟨ti0⟩
theorem wf_i64 {x : Int} (h : (Lit.int .i64 x).wf = true) : -9223372036854775808 ≤ x ∧ x ≤ 9223372036854775807 := by
  unfold Lit.wf at h
  rw [Bool.and_eq_true, decide_eq_true_eq, decide_eq_true_eq] at h
  have h1 : IntKind.i64.min = -9223372036854775808 := by decide
  have h2 : IntKind.i64.max = 9223372036854775807 := by decide
  rw [h1, h2] at h
  exact h
section
variable {H : Type} {enc : TypeId × Value → H} {w : World} {spare : Nat → Bool} {held : Bool} {fuel : Nat} {v : Value} {x : DataW H × List MemPlace}
end
end Go.Proofs.YthcabnfcgjnlnaaGreatDoor
/-
  THE MAP of numbers, keyed by references: made by the call, filled, read.
-/
namespace Go.Proofs.YthcabnfcgjnlnaaGreatDoor
open Go.RowKit Ru Lay
open Go.Maps (Keyed)
set_option linter.unusedVariables false
set_option linter.unusedSimpArgs false

theorem laidOutM : laidOutB Tryz.prog = true := by kernel_rfl
theorem refKeyed : Keyed Tryz.prog 24 := Keyed.of_law (deep_law_laid laidOutM (m := 2) (by omega) (of_decide_eq_true (by kernel_rfl)) (by kernel_rfl) (by kernel_rfl))
def refLit (r : Rf) : Lit := .string (keyBytes [.int .i64 r.1, .int .i64 r.2])
theorem ref_key {r : Rf} (h : RfOk r) : keyOf Tryz.prog 24 (.agg #[.int .i64 r.1, .int .i64 r.2]) = some (refLit r) := by
  have hkt : Tryz.prog.keyType 24 = true := by kernel_rfl
  have hc : Tryz.prog.cellsOf 24 = 2 := by kernel_rfl
  have hci : Tryz.prog.cellsOf 3 = 1 := by kernel_rfl
  obtain ⟨m, hm⟩ : ∃ m, Tryz.prog.types.size = m + 1 := ⟨Tryz.prog.types.size - 1, by kernel_rfl⟩
  unfold keyOf
  simp only [Tryz.underlying24]
  rw [if_pos (by simp [hkt, Value.formed, Tryz.underlying24, hc]), hm]
  unfold Program.keyLits
  simp only [Tryz.underlying24, Value.cells]
  simp [hc, hci, Program.keyLits, Tryz.underlying3, h.1, h.2, refLit]
theorem refLit_inj {a b : Rf} (ha : RfOk a) (hb : RfOk b) (h : refLit a = refLit b) : a = b := by
  have h1 := ref_key ha
  have h2 := ref_key hb
  rw [← h] at h2
  have h3 := refKeyed.inj h1 h2
  have h4 := congrArg (fun v => match v with | Value.agg xs => xs.toList | _ => []) h3
  simp at h4
  exact Prod.ext h4.1 h4.2
theorem refLit_key {r : Rf} (h : RfOk r) : WideAt.IsKeyLit (refLit r) := refKeyed.key (ref_key h)
theorem map_zero (w : World) : (zeroValue 3).run Tryz.prog w = .ok (.int .i64 0) w := by kernel_rfl
/-- Block b is a map that says of each reference what its number among those of a list is. -/
def NumM (w : World) (b : Nat) (out : List Rf) : Prop :=
  ∃ D : DataW Unit, w.ownsMap Tryz.prog 24 (plainElem Tryz.prog 3) b out.length D ∧ Maps.IsMap D ∧ ∀ r, RfOk r → D.atKey (refLit r) (.lit (.int .i64 0)) = .lit (.int .i64 (numR out r))
theorem NumM.made (w : World) : NumM (w.alloc (.map #[] 0)) w.heap.size [] :=
  ⟨.map [], World.ownsMap_made _ _ _ _, Maps.isMap_empty, fun r _ => by unfold numR idxR; simp [DataW.atKey]⟩
theorem NumM.lt {w : World} {b : Nat} {out : List Rf} (h : NumM w b out) : b < w.heap.size := by obtain ⟨D, h1, _⟩ := h; exact h1.lt
theorem NumM.kept {w w' : World} {b : Nat} {out : List Rf} {row : Option Nat} (h : NumM w b out) (hg : w.grownBy w' row) (hne : some b ≠ row) : NumM w' b out := by
  obtain ⟨D, h1, h2, h3⟩ := h
  exact ⟨D, h1.kept hg hne, h2, h3⟩
theorem NumM.alloc {w : World} {b : Nat} {out : List Rf} (h : NumM w b out) (o : Obj) : NumM (w.alloc o) b out := h.kept (World.grownBy_alloc w o none) (by simp)
theorem NumM.on {w w' : World} {b : Nat} {out : List Rf} (h : NumM w b out) (hb : Below w.heap.size w w') : NumM w' b out := by
  obtain ⟨D, ⟨es, ck, h1, h2, h3, h4⟩, h5, h6⟩ := h
  have hlt := (Array.getElem?_eq_some_iff.1 h1).1
  exact ⟨D, ⟨es, ck, (hb.block b hlt).trans h1, h2, h3, h4⟩, h5, h6⟩
/-- 'number[r]': the number of a reference. -/
theorem wpList_lookup_num {ops : Array Oper} {rest : List Oper} {o : Oper} {a : Act} {Q : Exit → Act → World → Prop} (w : World) (hg : o.guard = none) (m x : Operand) (hop : o.op = Op.lookup 68 m x false)
    (b : Nat) (out : List Rf) (hm : a.eval m = .map (some b)) (hN : NumM w b out) (r : Rf) (hr : RfOk r) (hx : a.eval x = .agg #[.int .i64 r.1, .int .i64 r.2])
    (hK : wpList Tryz.prog ops Q rest (a.put o.dst (.int .i64 (numR out r))) w) : wpList Tryz.prog ops Q (o :: rest) a w := by
  obtain ⟨D, h1, h2, h3⟩ := hN
  refine wpList_lookup_own_int w hg m x 68 hop 24 3 .i64 refKeyed Tryz.underlying68 Tryz.underlying3 (map_zero w) b out.length D hm h1 _ (refLit r) hx (ref_key hr) fun c hc _ => ?_
  rw [h3 r hr] at hc
  injection hc with hc
  injection hc with _ hc
  rw [← hc]
  exact hK
theorem numR_wf {out : List Rf} {r : Rf} (h : out.length ≤ 1000000000) : (Lit.int .i64 ((out.length : Int) + 1)).wf = true := by
  unfold Lit.wf
  rw [Bool.and_eq_true, decide_eq_true_eq, decide_eq_true_eq]
  have h1 : IntKind.i64.min = -9223372036854775808 := by decide
  have h2 : IntKind.i64.max = 9223372036854775807 := by decide
  rw [h1, h2]
  omega
/-- 'number[r] = len(out)', behind the append of r. -/
theorem wpList_update_num {ops : Array Oper} {rest : List Oper} {o : Oper} {a : Act} {Q : Exit → Act → World → Prop} (w : World) (hg : o.guard = none) (m x v : Operand) (hop : o.op = Op.mapUpdate 68 m x v)
    (b : Nat) (out : List Rf) (hm : a.eval m = .map (some b)) (hN : NumM w b out) (r : Rf) (hr : RfOk r) (hno : r ∉ out) (hlen : out.length ≤ 1000000000) (hx : a.eval x = .agg #[.int .i64 r.1, .int .i64 r.2]) (z : Int) (hz : z = (out.length : Int) + 1) (hv : a.eval v = .int .i64 z)
    (hK : ∀ w', NumM w' b (out ++ [r]) → w.grownBy w' (some b) → wpList Tryz.prog ops Q rest (a.put o.dst undef) w') : wpList Tryz.prog ops Q (o :: rest) a w := by
  obtain ⟨D, h1, h2, h3⟩ := hN
  refine wpList_mapUpdate_own w hg m x v 68 hop 24 3 refKeyed Tryz.underlying68 (plainElem Tryz.prog 3) b out.length D hm h1 (by unfold maxLen; omega) _ _ (refLit r) hx hv (ref_key hr) (.lit (.int .i64 z)) [] (plainElem_int Tryz.underlying3 (by rw [hz]; exact numR_wf (r := r) hlen)) fun w' h4 h5 => hK w' ⟨_, by rw [List.length_append]; exact h4, h2.put _ _, fun q hq => ?_⟩ h5
  by_cases e : q = r
  · subst e
    rw [Maps.atKey_put_same h2 (refLit_key hr), numR_new hno, hz]
  · rw [Maps.atKey_put_other (fun h => e (refLit_inj hq hr h)), h3 q hq, numR_other e]
end Go.Proofs.YthcabnfcgjnlnaaGreatDoor
/-
  grammar.numbers, Numbers, Number: the references of statements, and their numbers.
-/
namespace Go.Proofs.YthcabnfcgjnlnaaGreatDoor
open Go.RowKit Ru Lay
attribute [local go_sem ↓] Go.wp_at_zero Go.wp_at_succ
set_option linter.unusedVariables false
set_option linter.unusedSimpArgs false

theorem RfO.snoc {w : World} {base : Nat} {v : Value} {l : List Rf} {r : Rf} (h : w.ownsRow base 24 2 v (l.length + 1) (l.flatMap encR ++ [.int .i64 r.1, .int .i64 r.2])) : RfO w base v (l ++ [r]) := OwnR.snoc (f := encR) (x := r) h
theorem RfO.grown {w w' : World} {base : Nat} {v : Value} {l : List Rf} {row : Option Nat} (h : RfO w base v l) (hg : w.grownBy w' row) (hne : ∀ k, v.ownBlock = some k → some k ≠ row) : RfO w' base v l := World.ownsRow.kept h hg (by
  cases e : v.ownBlock with
  | none => exact .inl rfl
  | some k => exact .inr (hne k e))
theorem RfO.apart {w : World} {base b : Nat} {v : Value} {l : List Rf} (h : RfO w base v l) (hb : b < base) : some b ≠ v.ownBlock := fun e => by
  have := (World.ownsRow.lt h b e.symm).1
  omega
theorem RfO.base {w : World} {base base' : Nat} {v : Value} {l : List Rf} (h : RfO w base v l) (hb : base' ≤ base) : RfO w base' v l := own_base h hb
theorem numsF_next {out : List Rf} {rs : List Rf} {j : Nat} {r : Rf} (h : rs[j]? = some r) : numsF out (rs.take (j + 1)) = if r ∈ numsF out (rs.take j) then numsF out (rs.take j) else numsF out (rs.take j) ++ [r] := by
  rw [List.take_add_one, h]
  exact numsF_snoc _ _ _
theorem allR_len {l : List Pt} {i : Nat} : (allR (l.take i)).length ≤ (allR l).length := by
  unfold allR
  conv => rhs; rw [← List.take_append_drop i l]
  rw [List.flatMap_append, List.length_append]
  omega
theorem allR_part {l : List Pt} {i : Nat} {p : Pt} (h : l[i]? = some p) (j : Nat) : (allR (l.take i)).length + (p.refs.take j).length ≤ (allR l).length := by
  have h1 := allR_len (l := l) (i := i + 1)
  rw [allR_next h, List.length_append] at h1
  have : (p.refs.take j).length ≤ p.refs.length := by rw [List.length_take]; omega
  omega
/-- What the program gathers. -/
def NumsPost (L : List Pt) (w : World) (e : Ending) (w' : World) : Prop := ∃ v b, e = .returned (.tuple #[v, .map (some b)]) ∧ RfO w' w.heap.size v (numsF [] (allR L)) ∧ NumM w' b (numsF [] (allR L)) ∧ Below w.heap.size w w'
set_option maxHeartbeats 4000000 in
set_option maxRecDepth 100000 in
theorem numbers_any (A : Option Addr) (n c : Nat) (L : List Pt) (w : World) (hP : PtsR w w.heap.size A n L) (hn : n ≤ 1000000) (hz : (allR L).length ≤ 1000000) :
    Calls Tryz.prog 33 #[.slice A n c] w (NumsPost L w) := by
  have HP := Lib.hid hP
  have HL := Lib.hid hP.len
  have HZ := Lib.hid hz
  clear hP hz
  have hmm := @run_makeMap Tryz.prog
  obtain ⟨W0, hW0⟩ : ∃ W0, w.alloc (.map #[] 0) = W0 := ⟨_, rfl⟩
  have HB0 : Hid (Below w.heap.size w W0) := by rw [← hW0]; exact (Below.refl _ w).alloc (Nat.le_refl _) _
  have HN0 : Hid (NumM W0 w.heap.size []) := by rw [← hW0]; exact NumM.made w
  have hz0 : W0.heap.size = w.heap.size + 1 := by rw [← hW0]; simp
  go_enter Tryz.func33, Tryz.ntmps33
  go_wp2_with fail
  (try rw [hW0])
  clear hW0 hmm
  go_loopw [4, 7, 9, 13] (fun v4 v7 v9 v13 wr => ∃ i : Nat, i ≤ n ∧ v13 = .int .i64 i ∧ Hid (RfO wr W0.heap.size v4 (numsF [] (allR (L.take i)))) ∧ Hid (NumM wr w.heap.size (numsF [] (allR (L.take i)))) ∧ Hid (Below w.heap.size w wr)) (fun _ _ _ v13 _ => n - (intOf v13).toNat)
  case atStart => exact ⟨0, Nat.zero_le _, rfl, OwnR.nil, HN0, HB0⟩
  case round =>
    clear HN0
    obtain ⟨i, hi, rfl, HO, HN, HB⟩ := hrel
    obtain ⟨w0, hw0⟩ : ∃ w0, wr = w0 := ⟨_, rfl⟩
    rw [hw0] at HO HN HB ⊢
    clear hw0
    by_cases hlt : i < n
    · have hiz : (i : Int) < (n : Int) := by omega
      have hiA : (0 : Int) ≤ (i : Int) := by omega
      obtain ⟨ad, x, rfl, hab, hx, hpr, hcells⟩ := HP.out.at_ hlt
      obtain ⟨q0, q1, q2, q3, q4⟩ := hcells w0 HB.out
      have HLT := Lib.hid hlt
      have HNX := Lib.hid (allR_next hx)
      have HPT := Lib.hid (allR_part hx)
      have HPR := Lib.hid hpr
      have HB1 : Hid (Below w.heap.size w (w0.alloc (.cells #[.int .i64 x.pid, .string x.title, .string x.text, .slice x.ea x.en x.ec, .slice x.ra x.rn x.rc] 65))) := HB.out.alloc HB.out.size _
      have HO1 : Hid (RfO (w0.alloc (.cells #[.int .i64 x.pid, .string x.title, .string x.text, .slice x.ea x.en x.ec, .slice x.ra x.rn x.rc] 65)) W0.heap.size u4 (numsF [] (allR (L.take i)))) := World.ownsRow.alloc HO.out _
      have HN1 : Hid (NumM (w0.alloc (.cells #[.int .i64 x.pid, .string x.title, .string x.text, .slice x.ea x.en x.ec, .slice x.ra x.rn x.rc] 65)) w.heap.size (numsF [] (allR (L.take i)))) := HN.out.alloc _
      obtain ⟨pid, title, text, ea, en, ec, ra, rn, rc, rs⟩ := x
      simp only at *
      clear hx hpr hcells HO HN
      go_upto_region 7 with fail
      obtain ⟨w1, hw1⟩ : ∃ w1, w0.alloc (.cells #[.int .i64 pid, .string title, .string text, .slice ea en ec, .slice ra rn rc] 65) = w1 := ⟨_, rfl⟩
      rw [hw1] at HO1 HN1 HB1
      (try rw [hw1])
      clear hw1 q0 q1 q2 q3 q4 HB
      have HRF : Hid (RefsR w w.heap.size ra rn rs) := HPR.out.refs
      have HOK : Hid (∀ r ∈ rs, RfOk r) := HPR.out.ok
      have hrn : rn ≤ 9223372036854775807 := HPR.out.size.2.2
      clear HPR
      obtain ⟨out0, ho0⟩ : ∃ out0, numsF [] (allR (L.take i)) = out0 := ⟨_, rfl⟩
      have HLE : Hid (∀ j, (numsF out0 (rs.take j)).length ≤ 1000000) := fun j => by
        have h1 := HPT.out j
        have h2 := HZ.out
        have h3 := numsF_len (allR (L.take i) ++ rs.take j) []
        rw [numsF_app, ho0, List.length_append] at h3
        simp only [List.length_nil] at h3
        omega
      have HNXT : Hid (numsF [] (allR (L.take (i + 1))) = numsF out0 rs) := by
        have h1 := HNX.out
        show numsF [] (allR (L.take (i + 1))) = _
        rw [h1, numsF_app, ho0]
      rw [ho0] at HO1 HN1
      clear ho0 HPT HNX
      go_loopw [4, 9, 20] (fun v4 v9 v20 wi => ∃ j : Nat, j ≤ rn ∧ v20 = .int .i64 j ∧ Hid (RfO wi W0.heap.size v4 (numsF out0 (rs.take j))) ∧ Hid (NumM wi w.heap.size (numsF out0 (rs.take j))) ∧ Hid (Below w.heap.size w wi)) (fun _ _ v20 _ => rn - (intOf v20).toNat)
      case atStart => exact ⟨0, Nat.zero_le _, rfl, HO1, HN1, HB1⟩
      case round =>
        clear HO1 HN1 HB1
        obtain ⟨j, hj, rfl, HO, HN, HB⟩ := hrel
        obtain ⟨w2, hw2⟩ : ∃ w2, wr = w2 := ⟨_, rfl⟩
        rw [hw2] at HO HN HB ⊢
        clear hw2
        have HLJ := Lib.hid (HLE.out j)
        by_cases hjt : j < rn
        · have hjz : (j : Int) < (rn : Int) := by omega
          have hjA : (0 : Int) ≤ (j : Int) := by omega
          have HJT := Lib.hid hjt
          obtain ⟨bd, r, rfl, hbb, hr, hrc⟩ := HRF.out.at_ hjt
          obtain ⟨q0, q1⟩ := hrc w2 HB.out
          have HOKr : Hid (RfOk r) := HOK.out r (List.mem_of_getElem? hr)
          have HNX := Lib.hid (numsF_next (out := out0) hr)
          obtain ⟨ll, hlq⟩ : ∃ ll, numsF out0 (rs.take j) = ll := ⟨_, rfl⟩
          rw [hlq] at HO HN HNX HLJ
          have hsz : w.heap.size < w2.heap.size := HN.out.lt
          have hlen := HLJ.out
          obtain ⟨r1, r2⟩ := r
          simp only at q0 q1
          have HO3 : Hid (RfO (w2.alloc (.cells #[.int .i64 r1, .int .i64 r2] 24)) W0.heap.size u4 ll) := World.ownsRow.alloc HO.out _
          have HN3 : Hid (NumM (w2.alloc (.cells #[.int .i64 r1, .int .i64 r2] 24)) w.heap.size ll) := HN.out.alloc _
          have HB3 : Hid (Below w.heap.size w (w2.alloc (.cells #[.int .i64 r1, .int .i64 r2] 24))) := HB.out.alloc HB.out.size _
          have HFR : Hid (some w2.heap.size ≠ u4.ownBlock) := fun e => by
            have := (World.ownsRow.lt HO.out w2.heap.size e.symm).2
            omega
          have hsa : (w2.alloc (.cells #[.int .i64 r1, .int .i64 r2] 24)).heap.size = w2.heap.size + 1 := by simp
          have hs3 : W0.heap.size ≤ (w2.alloc (.cells #[.int .i64 r1, .int .i64 r2] 24)).heap.size := by simp; omega
          clear hlq hr hrc HO HN HB
          by_cases hm : (r1, r2) ∈ ll
          · have c0 : (numR ll (r1, r2) == 0) = false := beq_eq_false_iff_ne.2 fun e => numR_zero.1 e hm
            have HNY : Hid (numsF out0 (rs.take (j + 1)) = ll) := by
              have h := HNX.out
              rw [if_pos hm] at h
              exact h
            clear HNX hm
            go_wp2_with (at_lookup; refine wpList_lookup_num _ rfl (.tmp 24) (.tmp 25) rfl w.heap.size ll rfl HN3.out (r1, r2) HOKr.out rfl ?_)
            go_roundw
            case rel => exact ⟨j + 1, HJT.out, by go_num, (by rw [HNY.out]; exact HO3), (by rw [HNY.out]; exact HN3), HB3⟩
            case measure => have := HJT.out; simp [intOf]; omega
          · have c0 : (numR ll (r1, r2) == 0) = true := beq_iff_eq.2 (numR_zero.2 hm)
            have HM := Lib.hid hm
            have HNY : Hid (numsF out0 (rs.take (j + 1)) = ll ++ [(r1, r2)]) := by
              have h := HNX.out
              rw [if_neg hm] at h
              exact h
            clear HNX hm
            go_wp2_with (first
              | (at_lookup; refine wpList_lookup_num _ rfl (.tmp 24) (.tmp 25) rfl w.heap.size ll rfl HN3.out (r1, r2) HOKr.out rfl ?_)
              | (at_builtin; refine wpList_appN2 rfl (.tmp 28) (.tmp 30) 28 rfl W0.heap.size 24 2 16 _ info_ref rfl (by omega) Tryz.underlying28 rfl HO3.out (by rw [hsa]; rfl) rfl (by simp [Value.oneCell']) (by omega) (by omega) (by omega) ?_; rintro v7 w4 hown7 hb7 hg7 hat7
                 have HN4 : Hid (NumM w4 w.heap.size ll) := (HN3.out.alloc _).kept hg7 (RfO.apart HO3.out (by omega))
                 have HB4 : Hid (Below w.heap.size w w4) := HB3.out.trans (hb7.mono (by omega))
                 have e0 : w4.cell? ⟨w2.heap.size, 0, none⟩ = some (.int .i64 r1) := hg7.cell (by rw [World.cell?_alloc_lt _ _ _ (by simp), World.cell?_alloc_new]; rfl) HFR.out
                 have e1 : w4.cell? ⟨w2.heap.size, 1, none⟩ = some (.int .i64 r2) := hg7.cell (by rw [World.cell?_alloc_lt _ _ _ (by simp), World.cell?_alloc_new]; rfl) HFR.out
                 have HO4 : Hid (RfO w4 W0.heap.size v7 (ll ++ [(r1, r2)])) := RfO.snoc hown7
                 obtain ⟨A7, c7, hv7, _, _, _⟩ := RfO.form HO4.out
                 obtain ⟨m7, hm7⟩ : ∃ m7, (ll ++ [(r1, r2)]).length = m7 := ⟨_, rfl⟩
                 have HM7 : Hid (m7 = ll.length + 1) := (by rw [← hm7, List.length_append]; rfl)
                 rw [hm7] at hv7
                 subst hv7
                 clear hm7 hown7 hb7 hg7 hat7)
              | (at_mapUpdate; refine wpList_update_num _ rfl (.tmp 32) (.tmp 33) (.tmp 35) rfl w.heap.size ll rfl HN4.out (r1, r2) HOKr.out HM.out (by omega) rfl (m7 : Int) (by have := HM7.out; omega) rfl ?_; rintro w5 hN5 hg5
                 have HN5 := Lib.hid hN5
                 have HO5 : Hid (RfO w5 W0.heap.size (.slice A7 m7 c7) (ll ++ [(r1, r2)])) := HO4.out.grown hg5 fun k hk e => (by injection e with e; have := (World.ownsRow.lt HO4.out k hk).1; omega)
                 have HB5 : Hid (Below w.heap.size w w5) := HB4.out.grown hg5 HB4.out.size fun k hk => (by injection hk with hk; omega)
                 clear hN5 hg5 HO4 HN4 HB4 e0 e1))
            go_roundw
            case rel => exact ⟨j + 1, HJT.out, by go_num, (by rw [HNY.out]; exact HO5), (by rw [HNY.out]; exact HN5), HB5⟩
            case measure => have := HJT.out; simp [intOf]; omega
        · obtain rfl : rn = j := by omega
          have hjz : ¬ (rn : Int) < (rn : Int) := by omega
          have ht : rs.take rn = rs := List.take_of_length_le (by rw [HRF.out.len]; exact Nat.le_refl _)
          rw [ht, ← HNXT.out] at HO HN
          clear ht
          go_wp2
          go_roundw
          case rel => exact ⟨i + 1, HLT.out, by go_num, HO, HN, HB⟩
          case measure => have := HLT.out; simp [intOf]; omega
    · obtain rfl : n = i := by omega
      have hiz : ¬ (n : Int) < (n : Int) := by omega
      have ht : L.take n = L := List.take_of_length_le (by rw [HL.out]; exact Nat.le_refl _)
      rw [ht] at HO HN
      clear ht
      go_wp2
      go_ret2
      exact ⟨_, _, rfl, HO.out.base (by omega), HN.out, HB.out⟩
end Go.Proofs.YthcabnfcgjnlnaaGreatDoor
/-
  PLAIN LAW: no line of an example is long; a reference's numbers. No program in sight.
-/
set_option linter.unusedVariables false
set_option linter.unusedSimpArgs false
namespace Go.Proofs.YthcabnfcgjnlnaaGreatDoor
open Go.RowKit Ru Lay Srt Col

theorem wrapG_mem {f : Nat × Nat → List ByteArray} {G : List (Nat × Nat)} {s : ByteArray} : ∀ i, s ∈ wrapG f G i → s = ⟨#[]⟩ ∨ ∃ g, s ∈ f g
  | 0, h => by cases h
  | i + 1, h => by
    unfold wrapG at h
    rcases List.mem_append.1 h with h | h
    · rcases List.mem_append.1 h with h | h
      · exact wrapG_mem i h
      · split at h
        · rw [List.mem_singleton] at h; exact .inl h
        · cases h
    · exact .inr ⟨_, h⟩
theorem wrapL_sz {L : List (List ByteArray)} {W : Int} (hz : SzL L) (hn : nmax L ≤ 20) : ∀ s ∈ wrapL L W, s.size ≤ 10000000 := fun s hs => by
  unfold wrapL at hs
  rcases wrapG_mem _ hs with rfl | ⟨g, hg⟩
  · exact Nat.zero_le _
  · unfold alignL at hg
    obtain ⟨r, hr, rfl⟩ := List.mem_map.1 hg
    have hr2 := hr
    unfold partP at hr2
    obtain ⟨q, hq, rfl⟩ := List.mem_map.1 hr2
    have hq20 : q.length ≤ 20 := Nat.le_trans (le_nmax hq) hn
    have hcols : (cols (partP L g)).length ≤ 20 := by
      rw [cols_len]
      refine nmax_le fun r2 hr2 => ?_
      unfold partP at hr2
      obtain ⟨q2, hq2, rfl⟩ := List.mem_map.1 hr2
      have := le_nmax hq2
      rw [List.length_drop, List.length_take]
      omega
    have hsz : SzR ((q.take (min g.2 q.length)).drop (min g.1 q.length)) := ⟨by rw [List.length_drop, List.length_take]; omega, fun s hs => (hz.2 q hq).2 s (List.mem_of_mem_take (List.mem_of_mem_drop hs))⟩
    have h1 := lineG_len (cols (partP L g)) _ hsz (cols (partP L g)).length
    have h2 : (cols (partP L g)).length * 104001 ≤ 20 * 104001 := Nat.mul_le_mul_right 104001 hcols
    unfold lineL
    rw [strL_size]
    have h3 := trimR_len (lineG (cols (partP L g)) ((q.take (min g.2 q.length)).drop (min g.1 q.length)) (cols (partP L g)).length)
    omega
theorem exL_sz {T : List Ti} {l : List Nt} {id : Int} {K : Nat} {WD : Int} (hz : TxtZ l) (hn : l.length ≤ 20) : ∀ s ∈ exL T l id K WD, s.size ≤ 10000000 := fun s hs => by
  unfold exL at hs
  split at hs
  · rcases List.mem_append.1 hs with h | h
    · exact wrapL_sz (rowsL_sz hz hn) (rowsL_few T l id K hn).2 s h
    · obtain ⟨x, _, rfl⟩ := List.mem_map.1 h
      have := textN_sz hz x
      unfold quoB
      have h1 : (⟨#[34]⟩ : ByteArray).size = 1 := rfl
      rw [ByteArray.size_append, ByteArray.size_append, h1]
      omega
  · cases hs
theorem DcOk.txt {x : Dc} (h : DcOk x) : TxtZ x.l := fun y hy => h.ok.text hy
theorem exC_sz {D : List Dc} (hok : ∀ x ∈ D, DcOk x) (hl : ∀ x ∈ D, x.l.length ≤ 20) (WD rec id : Int) : ∀ s ∈ exC WD (docF D rec) id, s.size ≤ 10000000 := fun s hs => by
  unfold exC at hs
  cases e : docF D rec with
  | none => rw [e] at hs; cases hs
  | some x =>
    rw [e] at hs
    exact exL_sz (hok x (docF_mem e).1).txt (hl x (docF_mem e).1) s hs
theorem RfOk.rng {r : Rf} (h : RfOk r) : (-9223372036854775808 ≤ r.1 ∧ r.1 ≤ 9223372036854775807) ∧ (-9223372036854775808 ≤ r.2 ∧ r.2 ≤ 9223372036854775807) := ⟨wf_i64 h.1, wf_i64 h.2⟩
theorem allR_le {L : List Pt} {k : Nat} (h : ∀ p ∈ L, p.refs.length ≤ k) : (allR L).length ≤ L.length * k := by
  induction L with
  | nil => simp [allR]
  | cons p L ih =>
    have h1 := ih fun q hq => h q (List.mem_cons_of_mem _ hq)
    have h2 := h p List.mem_cons_self
    unfold allR at h1 ⊢
    rw [List.flatMap_cons, List.length_append, List.length_cons, Nat.succ_mul]
    omega
theorem NumM.below {B : Nat} {w w' : World} {b : Nat} {out : List Rf} (h : NumM w b out) (hb : Below B w w') (hlt : b < B) : NumM w' b out := by
  obtain ⟨D, ⟨es, ck, h1, h2, h3, h4⟩, h5, h6⟩ := h
  exact ⟨D, ⟨es, ck, (hb.block b hlt).trans h1, h2, h3, h4⟩, h5, h6⟩
theorem wp_lookup_num {o : Oper} {a : Act} {w : World} {K : Act → World → Prop} {Q : Exit → Act → World → Prop} (m x : Operand) (hop : o.op = Op.lookup 68 m x false)
    (b : Nat) (out : List Rf) (hm : a.eval m = .map (some b)) (hN : NumM w b out) (r : Rf) (hr : RfOk r) (hx : a.eval x = .agg #[.int .i64 r.1, .int .i64 r.2])
    (hK : K (a.put o.dst (.int .i64 (numR out r))) w) : o.wp Tryz.prog a w K Q := by
  obtain ⟨D, h1, h2, h3⟩ := hN
  obtain ⟨c, hrun, hat, hwc⟩ := h1.lookup_int refKeyed Tryz.underlying68 Tryz.underlying3 (map_zero w) (ref_key hr)
  rw [h3 r hr] at hat
  injection hat with hat
  injection hat with _ hat
  rw [hat] at hK
  unfold Oper.wp
  simp [execOp, hop, hm, hx, hrun, Result.andThen]
  exact hK
/-- A row beside one that grows. -/
theorem own_kept {w w' : World} {base e size n : Nat} {u v v' : Value} {ys : List Value} (hu : w.ownsRow base e size u n ys) (hg : w.grownBy w' v.ownBlock) (hap : Apart u v)
    (hat : v'.ownBlock = v.ownBlock ∨ v'.ownBlock = some w.heap.size) : w'.ownsRow base e size u n ys ∧ Apart u v' := by
  constructor
  · refine hu.kept hg ?_
    cases hb : u.ownBlock with
    | none => exact .inl rfl
    | some b => exact .inr (fun he => hap b hb he.symm)
  · intro b hb he
    rcases hat with h | h
    · exact hap b hb (h ▸ he)
    · rw [h] at he
      have := (hu.lt b hb).2
      simp at he
      omega
/-- A struct laid in a block of its own, as a row of one. -/
theorem guest_made (w : World) (e : TypeId) (cs : List Value) (c : Array Value) (hc : c.toList = cs) (size : Nat) (hs : cs.length = size) : (w.alloc (.cells c e)).ownsRow 0 e size (.slice (some ⟨w.heap.size, 0, none⟩) 1 1) 1 cs := by
  have h := World.ownsRow_lit (base := 0) (e := e) (size := size) w c 1 (Nat.zero_le _) (by unfold maxLen; omega) (by rw [← Array.length_toList, hc, hs]; omega)
  rw [hc] at h
  exact h
theorem guest_cell {w : World} {base e size b : Nat} {cs : List Value} (h : w.ownsRow base e size (.slice (some ⟨b, 0, none⟩) 1 1) 1 cs) {j : Nat} {v : Value} (hj : cs[j]? = some v) (hjs : j < 1 * size) : w.cell? ⟨b, j, none⟩ = some v := by
  rw [World.ownsRow.cellAt h j hjs, hj]
end Go.Proofs.YthcabnfcgjnlnaaGreatDoor
