import Derived.Test.YthcabnfcgjnlnaaGreatDoorK01
import Derived.Deep.QuietTactic
import Derived.BigQuiet
import Derived.Test.YthcabnfcgjnlnaaGreatDoorProg
import Derived.Lib.Strings
import Derived.WalkLawsBesides
import Derived.Outline
import Derived.Lib.MapLaws
import Derived.Lib.ValidLaws
import Derived.Lib.TrimUEq
import Derived.Lib.RuneBytes
import Derived.RangeFuncFrom
import Derived.RangeFuncOwn
import Derived.RangeFuncBox
set_option linter.unusedVariables false
set_option linter.unusedSimpArgs false
namespace Go.Proofs.YthcabnfcgjnlnaaGreatDoor.Srt
open Go.Proofs.YthcabnfcgjnlnaaGreatDoor.Col Go.Proofs.YthcabnfcgjnlnaaGreatDoor
variable {α : Type} {c : α → α → Int}
/-! ### The stable sort: runs of one length, then of twice that length -/
def TagIn (d : Nat → Tag α) (lo hi : Nat) : Prop := ∀ k, lo ≤ k → k < hi → lo ≤ (d k).2 ∧ (d k).2 < hi
structure Run (c : α → α → Int) (d : Nat → Tag α) (lo hi : Nat) : Prop where
  sorted : SortedOn c d lo hi
  tags : TagIn d lo hi
theorem Run.congr {d d' : Nat → Tag α} {lo hi : Nat} (h : Run c d lo hi) (he : ∀ k, lo ≤ k → k < hi → d' k = d k) : Run c d' lo hi :=
  ⟨fun i j h1 h2 h3 => by rw [he i h1 (by omega), he j (by omega) h3]; exact h.sorted i j h1 h2 h3, fun k h1 h2 => by rw [he k h1 h2]; exact h.tags k h1 h2⟩
theorem Merged.run {d d' : Nat → Tag α} {a m b : Nat} (h1 : Run c d a m) (h2 : Run c d m b) (_ham : a ≤ m) (_hmb : m ≤ b) (h : Merged c d d' a b) : Run c d' a b :=
  ⟨h.sorted, fun k x1 x2 => by
    obtain ⟨j, j1, j2, e⟩ := h.perm.mem x1 x2
    rw [e]
    by_cases q : j < m
    · have := h1.tags j j1 q; omega
    · have := h2.tags j (by omega) j2; omega⟩
/-! ### There is one order only -/
theorem sorted_unique (hc : IsCmp c) : ∀ {l m : List (Tag α)}, l.Perm m → l.Pairwise (lexLt c) → m.Pairwise (lexLt c) → l = m
  | [], m, hp, _, _ => by rw [List.nil_perm.1 hp]
  | x :: l, [], hp, _, _ => by have := hp.length_eq; simp at this
  | x :: l, y :: m, hp, h1, h2 => by
    rw [List.pairwise_cons] at h1 h2
    have e : x = y := by
      have hx : x ∈ y :: m := hp.mem_iff.1 (List.mem_cons_self)
      have hy : y ∈ x :: l := hp.mem_iff.2 (List.mem_cons_self)
      rcases List.mem_cons.1 hx with e | hx
      · exact e
      · rcases List.mem_cons.1 hy with e | hy
        · exact e.symm
        · exact absurd (h2.1 x hx) (lexLt_asymm hc (h1.1 y hy))
    subst e
    rw [sorted_unique hc (List.Perm.cons_inv hp) h1.2 h2.2]
/-- The first n elements as a list. -/
def listOf (d : Nat → Tag α) (n : Nat) : List (Tag α) := (List.range n).map d
theorem listOf_pairwise {d : Nat → Tag α} {n : Nat} (h : SortedOn c d 0 n) : (listOf d n).Pairwise (lexLt c) := by
  unfold listOf
  rw [List.pairwise_map, List.pairwise_iff_getElem]
  intro i j hi hj hij
  simp at hi hj ⊢
  exact h i j (Nat.zero_le _) hij hj
theorem listOf_perm {d d' : Nat → Tag α} {n : Nat} (h : PermOn 0 n d d') : (listOf d' n).Perm (listOf d n) := by
  have := h.perm
  simpa [listOf, List.range_eq_range'] using this
/-- A list, told as tagged elements. -/
def tagged [Inhabited α] (xs : List α) : Nat → Tag α := fun k => (xs.getD k default, k)
theorem listOf_tagged [Inhabited α] (xs : List α) : listOf (tagged xs) xs.length = xs.zipIdx := by
  unfold listOf tagged
  apply List.ext_getElem?
  intro k
  simp only [List.getElem?_map]
  by_cases hk : k < xs.length
  · rw [List.getElem?_range hk]
    simp [List.getElem?_zipIdx, hk]
  · rw [List.getElem?_eq_none (by simp; omega), List.getElem?_eq_none (by simp; omega)]
    rfl
/-- ys is xs in order, equal elements in the order in which they were. -/
def StableOf (c : α → α → Int) (xs ys : List α) : Prop := ∃ p : List (Tag α), p.Perm xs.zipIdx ∧ p.Pairwise (lexLt c) ∧ p.map (·.1) = ys
theorem StableOf.unique (hc : IsCmp c) {xs ys zs : List α} (h1 : StableOf c xs ys) (h2 : StableOf c xs zs) : ys = zs := by
  obtain ⟨p, p1, p2, p3⟩ := h1
  obtain ⟨q, q1, q2, q3⟩ := h2
  rw [← p3, ← q3, sorted_unique hc (p1.trans q1.symm) p2 q2]
theorem stableOf_of [Inhabited α] {xs : List α} {d : Nat → Tag α} (hp : PermOn 0 xs.length (tagged xs) d) (hs : SortedOn c d 0 xs.length) : StableOf c xs ((listOf d xs.length).map (·.1)) :=
  ⟨_, by rw [← listOf_tagged]; exact listOf_perm hp, listOf_pairwise hs, rfl⟩
theorem StableOf.perm {xs ys : List α} (h : StableOf c xs ys) : ys.Perm xs := by
  obtain ⟨p, p1, _, rfl⟩ := h
  have := p1.map (·.1)
  rwa [List.zipIdx_map_fst] at this
theorem StableOf.sorted {xs ys : List α} (h : StableOf c xs ys) : ys.Pairwise (fun x y => c x y ≤ 0) := by
  obtain ⟨p, _, p2, rfl⟩ := h
  rw [List.pairwise_map]
  exact p2.imp fun h => by unfold lexLt at h; omega
end Go.Proofs.YthcabnfcgjnlnaaGreatDoor.Srt
/-
  PLAIN LAW: one insertion from the right, behind all that are not greater, is a step of the stable sort. No program in sight.
-/
set_option linter.unusedVariables false
namespace Go.Proofs.YthcabnfcgjnlnaaGreatDoor.Srt
open Go.Proofs.YthcabnfcgjnlnaaGreatDoor.Col
variable {α : Type} {c : α → α → Int}

theorem stable_nil : StableOf c ([] : List α) [] := ⟨[], by simp, List.Pairwise.nil, rfl⟩
theorem stable_insert (hc : IsCmp c) {l : List α} {k at_ : Nat} {x : α} {ys : List α} (h : StableOf c (l.take k) ys) (hx : l[k]? = some x) (hat : at_ ≤ ys.length)
    (h1 : ∀ y, 0 < at_ → ys[at_ - 1]? = some y → 0 ≤ c x y) (h2 : ∀ j y, at_ ≤ j → ys[j]? = some y → c x y < 0) : StableOf c (l.take (k + 1)) (ys.take at_ ++ x :: ys.drop at_) := by
  obtain ⟨p, p1, p2, rfl⟩ := h
  have hk : k < l.length := (List.getElem?_eq_some_iff.1 hx).1
  have hxk : l[k] = x := (List.getElem?_eq_some_iff.1 hx).2
  rw [List.length_map] at hat
  have htag : ∀ q, q ∈ p → q.2 < k := fun q hq => by
    have := p1.mem_iff.1 hq
    have := (List.mem_zipIdx_iff_getElem?.1 this)
    have h3 := (List.getElem?_eq_some_iff.1 this).1
    rw [List.length_take] at h3
    omega
  refine ⟨p.take at_ ++ (x, k) :: p.drop at_, ?_, ?_, ?_⟩
  · have e : (l.take (k + 1)).zipIdx = (l.take k).zipIdx ++ [(x, k)] := by
      rw [List.take_succ_eq_append_getElem hk, List.zipIdx_append, hxk]
      simp [Nat.min_eq_left (Nat.le_of_lt hk)]
    rw [e]
    refine List.Perm.trans List.perm_middle ?_
    rw [List.take_append_drop]
    exact (List.perm_append_singleton (x, k) p).symm.trans (p1.append_right _)
  · have hp := p2
    rw [← List.take_append_drop at_ p, List.pairwise_append] at hp
    rw [List.pairwise_append]
    have hleft : ∀ q, q ∈ p.take at_ → c q.1 x ≤ 0 := by
      intro q hq
      have h0 : 0 < at_ := by
        rcases Nat.eq_zero_or_pos at_ with e | e
        · subst e; simp at hq
        · exact e
      have hl : at_ - 1 < p.length := by omega
      have hy := h1 (p[at_ - 1].1) h0 (by rw [List.getElem?_map, List.getElem?_eq_getElem hl]; rfl)
      have hy' : c p[at_ - 1].1 x ≤ 0 := by
        have := hc.anti x p[at_ - 1].1
        omega
      obtain ⟨j, hj⟩ := List.getElem?_of_mem hq
      rw [List.getElem?_take] at hj
      split at hj
      · rename_i hja
        obtain ⟨hjl, rfl⟩ := List.getElem?_eq_some_iff.1 hj
        by_cases e : j = at_ - 1
        · subst e; exact hy'
        · have h3 := List.pairwise_iff_getElem.1 p2 j (at_ - 1) hjl hl (by omega)
          have h4 : c p[j].1 p[at_ - 1].1 ≤ 0 := by unfold lexLt at h3; omega
          have := hc.trans _ _ _ h4 hy'
          omega
      · cases hj
    have hright : ∀ q, q ∈ p.drop at_ → c x q.1 < 0 := by
      intro q hq
      obtain ⟨j, hj⟩ := List.getElem?_of_mem hq
      rw [List.getElem?_drop] at hj
      exact h2 (at_ + j) q.1 (by omega) (by rw [List.getElem?_map, hj]; rfl)
    refine ⟨hp.1, List.pairwise_cons.2 ⟨fun q hq => .inl (hright q hq), hp.2.1⟩, ?_⟩
    intro q hq r hr
    rcases List.mem_cons.1 hr with rfl | hr
    · have h3 := hleft q hq
      have h4 := htag q (List.mem_of_mem_take hq)
      unfold lexLt
      simp only
      omega
    · exact hp.2.2 q hq r hr
  · simp [List.map_append, List.map_take, List.map_drop]
end Go.Proofs.YthcabnfcgjnlnaaGreatDoor.Srt
/-
  A REGION THAT DRAWS ITS ORDER, whose operations only read, and whose callees read and may lay new blocks: walked once, in the order of the text. (Derived/Deep/Quiet.lean's theorem at the class 'all that was there is as it was'.)
-/
namespace Go.Proofs.YthcabnfcgjnlnaaGreatDoor
open Go.RowKit

/-- The worlds in which all that lies in w is as it was. -/
structure BW (w : World) where
  at_ : World
  bel : Below w.heap.size w at_
instance (w : World) : Inhabited (BW w) := ⟨⟨w, Below.refl _ _⟩⟩
theorem wp_region_quiet_below {P : Program} {id : Nat} {Q : Exit → Act → World → Prop} {a : Act} {w : World} {l : List Oper} (hm : P.follows .mixedOrders = true) (hB : Region.lexB .any l.toArray = true)
    (h : wpQuiet P l.toArray (fun w' => ∃ p : BW w, w' = p.at_) (fun a' => ∀ w', (∃ p : BW w, w' = p.at_) → Q .normal a' w') l a) : (Code.region id l.toArray true).wp P Q a w :=
  wp_region_quiet (C := fun w' => ∃ p : BW w, w' = p.at_) hm hB ⟨⟨w.drew, (Below.refl _ _).drew⟩, rfl⟩ (by simpa using h)
theorem below_quiet {P : Program} {f : FuncId} {args : Array Value} {w : World} {p : BW w} {v : Value}
    (h : Calls P f args p.at_ fun e w' => e = .returned v ∧ Below p.at_.heap.size p.at_ w') : Calls P f args p.at_ fun e w'' => e = .returned v ∧ ∃ q : BW w, w'' = q.at_ :=
  h.mono fun _ _ ⟨he, hb⟩ => ⟨he, ⟨_, p.bel.trans (hb.mono p.bel.size)⟩, rfl⟩
theorem bw_below {w w' : World} (h : ∃ p : BW w, w' = p.at_) : Below w.heap.size w w' := by
  obtain ⟨p, rfl⟩ := h
  exact p.bel
end Go.Proofs.YthcabnfcgjnlnaaGreatDoor
/-
  SMALL WORDS that every chapter's walks use.
-/
namespace Go.Proofs.YthcabnfcgjnlnaaGreatDoor
open Go.RowKit
set_option linter.unusedVariables false
set_option linter.unusedSimpArgs false

theorem ret_bool {a b : Bool} (h : a = b) : Ending.returned (.bool a) = .returned (.bool b) := by rw [h]
theorem ret_i64 {a b : Int} (h : a = b) : Ending.returned (.int .i64 a) = .returned (.int .i64 b) := by rw [h]
theorem ret_str {a b : ByteArray} (h : a = b) : Ending.returned (.string a) = .returned (.string b) := by rw [h]
theorem mono_eq {P : Program} {f : FuncId} {args : Array Value} {w : World} {v v' : Value} {R : World → Prop} (h : Calls P f args w fun e w' => e = .returned v ∧ R w') (hv : v = v') : Calls P f args w fun e w' => e = .returned v' ∧ R w' := by
  subst hv
  exact h
theorem cell_z {w wr : World} {a : Addr} {v : Value} (hz : Hid (∃ z, wr = w.drewN z)) (h : w.cell? a = some v) : wr.cell? a = some v := by
  obtain ⟨z, rfl⟩ := hz.out
  exact h
theorem drew_z {w wr : World} (hz : Hid (∃ z, wr = w.drewN z)) (k : Nat) : ∃ z, wr.drewN k = w.drewN z := by
  obtain ⟨z, rfl⟩ := hz.out
  exact ⟨_, World.drewN_drewN _ _ _⟩
theorem ba_ext {a b : ByteArray} (h : a.data.toList = b.data.toList) : a = b := by
  cases a with | mk d => cases b with | mk e => cases d with | mk p => cases e with | mk q => simp at h; rw [h]

/-- A slice of strings reads as l. -/
def SR (w : World) (B : Nat) (A : Option Addr) (n : Nat) (l : List ByteArray) : Prop := Reads w B 1 A n (l.map .string)
/-- A slice of integers reads as l. -/
def IR (w : World) (B : Nat) (A : Option Addr) (n : Nat) (l : List Int) : Prop := Reads w B 1 A n (l.map (.int .i64))
section
variable {w w' : World} {B B' n k : Nat} {A : Option Addr}
theorem SR.at_ {l : List ByteArray} (h : SR w B A n l) (hk : k < n) :
    ∃ ad x, A = some ad ∧ ad.block < B ∧ l[k]? = some x ∧ w.cell? (ad.add k) = some (.string x) := by
  obtain ⟨ad, u, e, hb, hx, hc⟩ := Reads.at_ h hk
  rw [List.getElem?_map] at hx
  cases hz : l[k]? with
  | none => rw [hz] at hx; cases hx
  | some x => rw [hz] at hx; cases hx; exact ⟨ad, x, e, hb, rfl, hc⟩
theorem IR.at_ {l : List Int} (h : IR w B A n l) (hk : k < n) :
    ∃ ad x, A = some ad ∧ ad.block < B ∧ l[k]? = some x ∧ w.cell? (ad.add k) = some (.int .i64 x) := by
  obtain ⟨ad, u, e, hb, hx, hc⟩ := Reads.at_ h hk
  rw [List.getElem?_map] at hx
  cases hz : l[k]? with
  | none => rw [hz] at hx; cases hx
  | some x => rw [hz] at hx; cases hx; exact ⟨ad, x, e, hb, rfl, hc⟩
theorem SR.len {l : List ByteArray} (h : SR w B A n l) : l.length = n := by simpa using h.1
theorem IR.len {l : List Int} (h : IR w B A n l) : l.length = n := by simpa using h.1
theorem Reads.on {size : Nat} {xs : List Value} (h : Reads w w.heap.size size A n xs) (hb : Below w.heap.size w w') : Reads w' w'.heap.size size A n xs := (h.below hb).more hb.size
theorem SR.on {l : List ByteArray} (h : SR w w.heap.size A n l) (hb : Below w.heap.size w w') : SR w' w'.heap.size A n l := Reads.on h hb
theorem IR.on {l : List Int} (h : IR w w.heap.size A n l) (hb : Below w.heap.size w w') : IR w' w'.heap.size A n l := Reads.on h hb
end
theorem take_snoc_eq {α : Type} {xs ys : List α} {k : Nat} {x y : α} (h : xs.take k = ys.take k) (hx : xs[k]? = some x) (hy : ys[k]? = some y) (he : x = y) : xs.take (k + 1) = ys.take (k + 1) := by
  rw [List.take_add_one, List.take_add_one, h, hx, hy, he]
/-- A new block reads as its cells. -/
theorem reads_new (w : World) (e : TypeId) (c : Array Value) : Reads (w.alloc (.cells c e)) (w.alloc (.cells c e)).heap.size 1 (some ⟨w.heap.size, 0, none⟩) c.size c.toList := by
  refine ⟨by simp, fun _ => ⟨_, rfl, by simp, fun j u hu => ?_⟩⟩
  have e1 : (⟨w.heap.size, 0, none⟩ : Addr).add j = ⟨w.heap.size, j, none⟩ := by
    unfold Addr.add
    split
    · rename_i h; simp [h]
    · simp
  rw [e1, World.cell?_alloc_at _ _ _ _ rfl]
  simpa using hu
end Go.Proofs.YthcabnfcgjnlnaaGreatDoor
/-
  MARKS AND THEIR CLASSES: the program's functions and the reference's, at every number.
-/
namespace Go.Proofs.YthcabnfcgjnlnaaGreatDoor
open Go.RowKit
set_option linter.unusedVariables false
set_option linter.unusedSimpArgs false
namespace Ru
def markB (p : Int) : Bool := decide (768 ≤ p) && decide (p ≤ 879)
def inB (p lo hi : Int) : Bool := decide (lo ≤ p) && decide (p ≤ hi)
def classI (p : Int) : Int :=
  if markB p = false then 0
  else if inB p 790 793 || inB p 796 800 || inB p 803 806 || inB p 809 819 then 220
  else if inB p 801 802 || inB p 807 808 then 202
  else 230
end Ru
set_option maxHeartbeats 400000 in
theorem mark_any (p : Int) (w : World) : Calls Tryz.prog 138 #[.int .i64 p] w fun e w' => e = .returned (.bool (Ru.markB p)) ∧ w = w' := by
  by_cases h1 : 768 ≤ p
  · have d1 : decide (768 ≤ p) = true := decide_eq_true h1
    by_cases h2 : p ≤ 879
    · have d2 : decide (p ≤ 879) = true := decide_eq_true h2
      go_enter Tryz.func138, Tryz.ntmps138
      go_wp2
      go_ret
      exact ⟨ret_bool (by simp [Ru.markB, h1, h2]), rfl⟩
    · have d2 : decide (p ≤ 879) = false := decide_eq_false h2
      go_enter Tryz.func138, Tryz.ntmps138
      go_wp2
      go_ret
      exact ⟨ret_bool (by simp [Ru.markB, h1, h2]), rfl⟩
  · have d1 : decide (768 ≤ p) = false := decide_eq_false h1
    go_enter Tryz.func138, Tryz.ntmps138
    go_wp2
    go_ret
    exact ⟨ret_bool (by unfold Ru.markB; rw [d1]; rfl), rfl⟩
end Go.Proofs.YthcabnfcgjnlnaaGreatDoor
/-
  PLAIN LAW of the chapter on runes: clusters and the order of marks. No program in sight.
-/
set_option linter.unusedVariables false
set_option linter.unusedSimpArgs false
namespace Go.Proofs.YthcabnfcgjnlnaaGreatDoor.Ru
open Go.Proofs.YthcabnfcgjnlnaaGreatDoor.Col Go.Proofs.YthcabnfcgjnlnaaGreatDoor.Srt

def mk (p : Nat) : Bool := markB (p : Int)
def cls (p : Nat) : Int := classI (p : Int)
def encS (l : List Nat) : List UInt8 := l.flatMap fun (p : Nat) => encL (p : Int)
theorem encS_nil : encS [] = [] := rfl
theorem encS_app (a b : List Nat) : encS (a ++ b) = encS a ++ encS b := by unfold encS; simp
theorem encS_cons (p : Nat) (t : List Nat) : encS (p :: t) = encL (p : Int) ++ encS t := by unfold encS; simp
def ofI (l : List Int) : Option (List UInt8) := if l.all scalarB then some (l.flatMap encL) else none

/-- The clusters of what is left, c being the one that is open. -/
def cluGo (c : List Nat) : List Nat → List (List Nat)
  | [] => [c]
  | p :: t => if mk p = true then cluGo (c ++ [p]) t else c :: cluGo [p] t
def clus : List Nat → List (List Nat)
  | [] => []
  | p :: t => cluGo [p] t
/-- Where a mark is inserted: behind all whose class is not greater. -/
def posR (l : List Nat) (m : Nat) : Nat → Nat
  | 0 => 0
  | k + 1 => if mk (l.getD k 0) = true ∧ cls m < cls (l.getD k 0) then posR l m k else k + 1
def ordR (l : List Nat) (m : Nat) : List Nat := l.take (posR l m l.length) ++ m :: l.drop (posR l m l.length)
/-- The points in order, c being the cluster (in order) that is open. -/
def ordGo (c : List Nat) : List Nat → List Nat
  | [] => c
  | p :: t => if mk p = true then ordGo (ordR c p) t else c ++ ordGo [p] t
def ords (l : List Nat) : List Nat := ordGo [] l
def order (s : List UInt8) : List UInt8 :=
  match points s with
  | none => s
  | some d => encS (ords d)

/-- What follows is empty or begins with no mark. -/
def Fresh (rest : List Nat) : Prop := ∀ p t, rest = p :: t → mk p = false
theorem cluGo_marks (c ms rest : List Nat) (h : ∀ m ∈ ms, mk m = true) : cluGo c (ms ++ rest) = cluGo (c ++ ms) rest := by
  induction ms generalizing c with
  | nil => simp
  | cons m ms ih =>
    show (if mk m = true then cluGo (c ++ [m]) (ms ++ rest) else _) = _
    rw [if_pos (h m (by simp)), ih _ (fun x hx => h x (by simp [hx]))]
    simp
theorem cluGo_fresh (c rest : List Nat) (h : Fresh rest) : cluGo c rest = c :: clus rest := by
  cases rest with
  | nil => rfl
  | cons p t =>
    show (if mk p = true then _ else c :: cluGo [p] t) = _
    rw [h p t rfl, if_neg (by simp)]
    rfl
theorem clus_seg (p : Nat) (ms rest : List Nat) (h : ∀ m ∈ ms, mk m = true) (hr : Fresh rest) : clus (p :: ms ++ rest) = (p :: ms) :: clus rest := by
  rw [List.cons_append]
  show cluGo [p] (ms ++ rest) = _
  rw [cluGo_marks _ _ _ h, cluGo_fresh _ _ hr]
  rfl
/-- Points part into a cluster and what follows. -/
theorem segs {l : List Nat} (h : l ≠ []) : ∃ p ms rest, l = p :: ms ++ rest ∧ (∀ m ∈ ms, mk m = true) ∧ Fresh rest := by
  cases l with
  | nil => exact absurd rfl h
  | cons p t =>
    refine ⟨p, t.takeWhile mk, t.dropWhile mk, by simp [List.takeWhile_append_dropWhile], fun m hm => ?_, fun q u hq => ?_⟩
    · have := List.all_takeWhile (p := mk) (l := t)
      exact List.all_eq_true.1 this m hm
    · have := List.head?_dropWhile_not mk t
      rw [hq] at this
      simpa using this
/-- Clusters, one after the other: an induction. -/
theorem seg_ind {P : List Nat → Prop} (h0 : P []) (h1 : ∀ p ms rest, (∀ m ∈ ms, mk m = true) → Fresh rest → P rest → P (p :: ms ++ rest)) (l : List Nat) : P l := by
  obtain ⟨n, hn⟩ : ∃ n, l.length = n := ⟨_, rfl⟩
  induction n using Nat.strongRecOn generalizing l with
  | _ n ih =>
    by_cases h : l = []
    · subst h; exact h0
    · obtain ⟨p, ms, rest, rfl, hm, hr⟩ := segs h
      exact h1 p ms rest hm hr (ih rest.length (by rw [← hn]; simp; omega) rest rfl)
end Go.Proofs.YthcabnfcgjnlnaaGreatDoor.Ru
/-
  PLAIN LAW of the chapter on runes: points and their bytes are inverse; two marks change places. No program in sight.
-/
set_option linter.unusedVariables false
set_option linter.unusedSimpArgs false
namespace Go.Proofs.YthcabnfcgjnlnaaGreatDoor.Ru
open Go.Proofs.YthcabnfcgjnlnaaGreatDoor.Col Go.Proofs.YthcabnfcgjnlnaaGreatDoor.Srt

theorem u8_nat {n : Nat} (h : n < 256) : (UInt8.ofNat n).toNat = n := by
  rw [UInt8.toNat_ofNat']; omega
theorem scalar_iff {p : Nat} : scalarB (p : Int) = true ↔ p ≤ 1114111 ∧ (p < 55296 ∨ 57343 < p) := by
  unfold scalarB
  simp only [Bool.and_eq_true, Bool.or_eq_true, decide_eq_true_eq]
  omega
theorem encL_len (p : Int) : 1 ≤ (encL p).length ∧ (encL p).length ≤ 4 := by
  unfold encL encI
  repeat' split
  all_goals simp
set_option maxRecDepth 100000 in
theorem first_enc {p : Nat} (h : scalarB (p : Int) = true) (rest : List UInt8) : firstL (encL (p : Int) ++ rest) = some (p, (encL (p : Int)).length) := by
  have hs := scalar_iff.1 h
  by_cases h1 : p < 128
  · have e : encL (p : Int) = [UInt8.ofNat p] := by unfold encL encI; rw [if_pos (by omega)]; simp
    have el : lead (UInt8.ofNat p).toNat = (p, 1) := by rw [u8_nat (by omega)]; unfold lead; rw [if_neg (by omega), if_neg (by omega), if_neg (by omega)]
    rw [e]
    simp only [List.cons_append, List.nil_append, firstL, el]
    simp only [Nat.sub_self, List.take_zero, cont, List.foldl_nil]
    rw [if_pos ⟨by omega, h, by rw [e]; simp⟩]
    rfl
  · by_cases h2 : p < 2048
    · have e : encL (p : Int) = [UInt8.ofNat (192 + p / 64), UInt8.ofNat (128 + p % 64)] := by
        unfold encL encI
        rw [if_neg (by omega), if_pos (by omega)]
        simp only [List.map_cons, List.map_nil]
        rw [show (192 + (p : Int) / 64).toNat = 192 + p / 64 by omega, show (128 + (p : Int) % 64).toNat = 128 + p % 64 by omega]
      have el : lead (UInt8.ofNat (192 + p / 64)).toNat = (p / 64, 2) := by
        rw [u8_nat (by omega)]; unfold lead; rw [if_neg (by omega), if_neg (by omega), if_pos (by omega)]
        congr 1; omega
      rw [e]
      simp only [List.cons_append, List.nil_append, firstL, el]
      have ec : cont (p / 64) ((UInt8.ofNat (128 + p % 64) :: rest).take (2 - 1)) = p := by
        simp only [cont, Nat.reduceSub, List.take_succ_cons, List.take_zero, List.foldl_cons, List.foldl_nil]
        rw [u8_nat (by omega)]; omega
      rw [ec, if_pos ⟨by simp, h, by rw [e]; simp⟩]
      rfl
    · by_cases h3 : p < 65536
      · have e : encL (p : Int) = [UInt8.ofNat (224 + p / 4096), UInt8.ofNat (128 + p / 64 % 64), UInt8.ofNat (128 + p % 64)] := by
          unfold encL encI
          rw [if_neg (by omega), if_neg (by omega), if_pos (by omega)]
          simp only [List.map_cons, List.map_nil]
          rw [show (224 + (p : Int) / 4096).toNat = 224 + p / 4096 by omega, show (128 + (p : Int) / 64 % 64).toNat = 128 + p / 64 % 64 by omega, show (128 + (p : Int) % 64).toNat = 128 + p % 64 by omega]
        have el : lead (UInt8.ofNat (224 + p / 4096)).toNat = (p / 4096, 3) := by
          rw [u8_nat (by omega)]; unfold lead; rw [if_neg (by omega), if_pos (by omega)]
          congr 1; omega
        rw [e]
        simp only [List.cons_append, List.nil_append, firstL, el]
        have ec : cont (p / 4096) ((UInt8.ofNat (128 + p / 64 % 64) :: UInt8.ofNat (128 + p % 64) :: rest).take (3 - 1)) = p := by
          simp only [cont, Nat.reduceSub, List.take_succ_cons, List.take_zero, List.foldl_cons, List.foldl_nil]
          rw [u8_nat (by omega), u8_nat (by omega)]; omega
        rw [ec, if_pos ⟨by simp, h, by rw [e]; simp⟩]
        rfl
      · have e : encL (p : Int) = [UInt8.ofNat (240 + p / 262144), UInt8.ofNat (128 + p / 4096 % 64), UInt8.ofNat (128 + p / 64 % 64), UInt8.ofNat (128 + p % 64)] := by
          unfold encL encI
          rw [if_neg (by omega), if_neg (by omega), if_neg (by omega)]
          simp only [List.map_cons, List.map_nil]
          rw [show (240 + (p : Int) / 262144).toNat = 240 + p / 262144 by omega, show (128 + (p : Int) / 4096 % 64).toNat = 128 + p / 4096 % 64 by omega, show (128 + (p : Int) / 64 % 64).toNat = 128 + p / 64 % 64 by omega, show (128 + (p : Int) % 64).toNat = 128 + p % 64 by omega]
        have el : lead (UInt8.ofNat (240 + p / 262144)).toNat = (p / 262144, 4) := by
          rw [u8_nat (by omega)]; unfold lead; rw [if_pos (by omega)]
          congr 1; omega
        rw [e]
        simp only [List.cons_append, List.nil_append, firstL, el]
        have ec : cont (p / 262144) ((UInt8.ofNat (128 + p / 4096 % 64) :: UInt8.ofNat (128 + p / 64 % 64) :: UInt8.ofNat (128 + p % 64) :: rest).take (4 - 1)) = p := by
          simp only [cont, Nat.reduceSub, List.take_succ_cons, List.take_zero, List.foldl_cons, List.foldl_nil]
          rw [u8_nat (by omega), u8_nat (by omega), u8_nat (by omega)]; omega
        rw [ec, if_pos ⟨by simp, h, by rw [e]; simp⟩]
        rfl
/-- All are scalars. -/
def Sc (l : List Nat) : Prop := ∀ p ∈ l, scalarB (p : Int) = true
theorem points_valid : ∀ (n : Nat) (s : List UInt8) (d : List Nat), s.length ≤ n → points s = some d → Sc d ∧ encS d = s
  | 0, s, d, hn, h => by
    have : s = [] := List.eq_nil_of_length_eq_zero (by omega)
    subst this
    rw [points_nil] at h
    cases h
    exact ⟨fun p hp => by simp at hp, rfl⟩
  | n + 1, s, d, hn, h => by
    by_cases h0 : s = []
    · subst h0
      rw [points_nil] at h
      cases h
      exact ⟨fun p hp => by simp at hp, rfl⟩
    · cases hf : firstL s with
      | none => rw [points_none h0 hf] at h; cases h
      | some pn =>
        obtain ⟨p, m⟩ := pn
        obtain ⟨f1, f2, f3, f4, f5⟩ := firstL_some hf
        rw [points_some hf] at h
        cases hp : points (s.drop m) with
        | none => rw [hp] at h; cases h
        | some d' =>
          rw [hp] at h
          cases h
          obtain ⟨i1, i2⟩ := points_valid n (s.drop m) d' (by rw [List.length_drop]; omega) hp
          refine ⟨fun q hq => ?_, by rw [encS_cons, i2, f5, List.take_append_drop]⟩
          rcases List.mem_cons.1 hq with rfl | hq
          · exact f4
          · exact i1 q hq
theorem points_sc {s : List UInt8} {d : List Nat} (h : points s = some d) : Sc d := (points_valid s.length s d (Nat.le_refl _) h).1
theorem encS_points {s : List UInt8} {d : List Nat} (h : points s = some d) : encS d = s := (points_valid s.length s d (Nat.le_refl _) h).2
theorem Sc.perm {l m : List Nat} (h : Sc l) (hp : m.Perm l) : Sc m := fun p hm => h p (hp.mem_iff.1 hm)
end Go.Proofs.YthcabnfcgjnlnaaGreatDoor.Ru
/-
  PLAIN LAW of the chapter on runes: the library's decoder and the reference's. No program in sight.
-/
set_option linter.unusedVariables false
set_option linter.unusedSimpArgs false
namespace Go.Proofs.YthcabnfcgjnlnaaGreatDoor.Ru
open Go.Lib

theorem enc_same {p : Nat} (h : scalarB (p : Int) = true) : encodeRuneZ (p : Int) = encI (p : Int) := by
  have hs := scalar_iff.1 h
  unfold encI
  by_cases h1 : p < 128
  · rw [if_pos (by omega), encodeRuneZ_one (by omega) (by omega)]
  · by_cases h2 : p < 2048
    · rw [if_neg (by omega), if_pos (by omega), encodeRuneZ_two (by omega) (by omega)]
    · by_cases h3 : p < 65536
      · rw [if_neg (by omega), if_neg (by omega), if_pos (by omega), encodeRuneZ_three (by omega)]
      · rw [if_neg (by omega), if_neg (by omega), if_neg (by omega), encodeRuneZ_four (by omega) (by omega)]
theorem encodeRune_same {p : Nat} (h : scalarB (p : Int) = true) : encodeRune (p : Int) = encL (p : Int) := by
  unfold encodeRune encL
  rw [enc_same h]
set_option maxRecDepth 100000 in
theorem decodeN_scalar {n b0 b1 b2 b3 : Nat} (h : ¬ ((decodeN n b0 b1 b2 b3).1 = 65533 ∧ (decodeN n b0 b1 b2 b3).2 = 1)) : scalarB ((decodeN n b0 b1 b2 b3).1 : Int) = true := by
  rw [scalar_iff]
  unfold decodeN at h ⊢
  split
  · simp only; omega
  · rename_i h0
    rw [if_neg h0] at h
    split
    · rename_i h1
      rw [if_pos h1] at h
      split
      · simp only; omega
      · rename_i h2; rw [if_neg h2] at h; exact absurd ⟨rfl, rfl⟩ h
    · rename_i h1
      rw [if_neg h1] at h
      split
      · rename_i h2
        rw [if_pos h2] at h
        split
        · rename_i h3; simp only; omega
        · rename_i h3; rw [if_neg h3] at h; exact absurd ⟨rfl, rfl⟩ h
      · rename_i h2
        rw [if_neg h2] at h
        split
        · rename_i h3
          rw [if_pos h3] at h
          split
          · rename_i h4; simp only; omega
          · rename_i h4; rw [if_neg h4] at h; exact absurd ⟨rfl, rfl⟩ h
        · rename_i h3; rw [if_neg h3] at h; exact absurd ⟨rfl, rfl⟩ h
/-- The decoder finds a rune: so does the reference. -/
theorem first_of_decode {l : List UInt8} (hne : l ≠ []) (h : ¬ ((decodeL l).1 = 65533 ∧ (decodeL l).2 = 1)) : firstL l = some ((decodeL l).1, (decodeL l).2) := by
  have hsc : scalarB ((decodeL l).1 : Int) = true := by
    rw [decodeL_N] at h ⊢
    exact decodeN_scalar h
  have he := encode_decode l hne h
  rw [encodeRune_same hsc] at he
  have hl : (encL ((decodeL l).1 : Int)).length = (decodeL l).2 := by
    rw [he, List.length_take]
    have := decodeL_le l hne
    omega
  have h1 := first_enc hsc (l.drop (decodeL l).2)
  rw [hl] at h1
  rwa [he, List.take_append_drop] at h1
set_option maxRecDepth 100000 in
theorem decode_enc {p : Nat} (h : scalarB (p : Int) = true) (rest : List UInt8) : decodeL (encL (p : Int) ++ rest) = (p, (encL (p : Int)).length) := by
  have hs := scalar_iff.1 h
  rw [decodeL_N]
  by_cases h1 : p < 128
  · have e : encL (p : Int) = [UInt8.ofNat p] := by unfold encL encI; rw [if_pos (by omega)]; simp
    rw [e]
    simp only [List.cons_append, List.nil_append, List.getD_cons_zero, u8_nat (by omega : p < 256)]
    unfold decodeN
    rw [if_pos (by omega)]
    rfl
  · by_cases h2 : p < 2048
    · have e : encL (p : Int) = [UInt8.ofNat (192 + p / 64), UInt8.ofNat (128 + p % 64)] := by
        unfold encL encI
        rw [if_neg (by omega), if_pos (by omega)]
        simp only [List.map_cons, List.map_nil]
        rw [show (192 + (p : Int) / 64).toNat = 192 + p / 64 by omega, show (128 + (p : Int) % 64).toNat = 128 + p % 64 by omega]
      rw [e]
      simp only [List.cons_append, List.nil_append, List.getD_cons_zero, List.getD_cons_succ, List.length_cons, u8_nat (by omega : 192 + p / 64 < 256), u8_nat (by omega : 128 + p % 64 < 256)]
      unfold decodeN
      rw [if_neg (by omega), if_pos (by omega), if_pos (by omega)]
      refine Prod.ext ?_ ?_
      · show (192 + p / 64) % 32 * 64 + (128 + p % 64) % 64 = p
        omega
      · rfl
    · by_cases h3 : p < 65536
      · have e : encL (p : Int) = [UInt8.ofNat (224 + p / 4096), UInt8.ofNat (128 + p / 64 % 64), UInt8.ofNat (128 + p % 64)] := by
          unfold encL encI
          rw [if_neg (by omega), if_neg (by omega), if_pos (by omega)]
          simp only [List.map_cons, List.map_nil]
          rw [show (224 + (p : Int) / 4096).toNat = 224 + p / 4096 by omega, show (128 + (p : Int) / 64 % 64).toNat = 128 + p / 64 % 64 by omega, show (128 + (p : Int) % 64).toNat = 128 + p % 64 by omega]
        rw [e]
        simp only [List.cons_append, List.nil_append, List.getD_cons_zero, List.getD_cons_succ, List.length_cons, u8_nat (by omega : 224 + p / 4096 < 256), u8_nat (by omega : 128 + p / 64 % 64 < 256), u8_nat (by omega : 128 + p % 64 < 256)]
        unfold decodeN
        rw [if_neg (by omega), if_neg (by omega), if_pos (by omega)]
        have ec : (224 + p / 4096) % 16 * 4096 + (128 + p / 64 % 64) % 64 * 64 + (128 + p % 64) % 64 = p := by omega
        rw [ec, if_pos (by omega)]
        rfl
      · have e : encL (p : Int) = [UInt8.ofNat (240 + p / 262144), UInt8.ofNat (128 + p / 4096 % 64), UInt8.ofNat (128 + p / 64 % 64), UInt8.ofNat (128 + p % 64)] := by
          unfold encL encI
          rw [if_neg (by omega), if_neg (by omega), if_neg (by omega)]
          simp only [List.map_cons, List.map_nil]
          rw [show (240 + (p : Int) / 262144).toNat = 240 + p / 262144 by omega, show (128 + (p : Int) / 4096 % 64).toNat = 128 + p / 4096 % 64 by omega, show (128 + (p : Int) / 64 % 64).toNat = 128 + p / 64 % 64 by omega, show (128 + (p : Int) % 64).toNat = 128 + p % 64 by omega]
        rw [e]
        simp only [List.cons_append, List.nil_append, List.getD_cons_zero, List.getD_cons_succ, List.length_cons, u8_nat (by omega : 240 + p / 262144 < 256), u8_nat (by omega : 128 + p / 4096 % 64 < 256), u8_nat (by omega : 128 + p / 64 % 64 < 256), u8_nat (by omega : 128 + p % 64 < 256)]
        unfold decodeN
        rw [if_neg (by omega), if_neg (by omega), if_neg (by omega), if_pos (by omega)]
        have ec : (240 + p / 262144) % 8 * 262144 + (128 + p / 4096 % 64) % 64 * 4096 + (128 + p / 64 % 64) % 64 * 64 + (128 + p % 64) % 64 = p := by omega
        rw [ec, if_pos (by omega)]
        rfl
/-- The reference finds a point: so does the decoder. -/
theorem decode_of_first {l : List UInt8} {p n : Nat} (h : firstL l = some (p, n)) : decodeL l = (p, n) ∧ ¬ (p = 65533 ∧ n = 1) := by
  obtain ⟨f1, f2, f3, f4, f5⟩ := firstL_some h
  have hl : (encL (p : Int)).length = n := by rw [f5, List.length_take]; omega
  have h1 := decode_enc f4 (l.drop n)
  rw [hl, f5, List.take_append_drop] at h1
  refine ⟨h1, ?_⟩
  rintro ⟨rfl, rfl⟩
  have : (encL ((65533 : Nat) : Int)).length = 3 := by decide
  omega
/-- A string is valid just if it has points. -/
theorem valid_points : ∀ (n : Nat) (l : List UInt8), l.length ≤ n → validGoD n l = (points l).isSome
  | 0, l, h => by
    have : l = [] := List.eq_nil_of_length_eq_zero (by omega)
    subst this
    rfl
  | n + 1, l, h => by
    unfold validGoD
    by_cases h0 : l = []
    · subst h0; rfl
    · rw [if_neg h0]
      by_cases he : (decodeL l).1 = 65533 ∧ (decodeL l).2 = 1
      · rw [if_pos he]
        cases hf : firstL l with
        | none => rw [points_none h0 hf]; rfl
        | some pn =>
          obtain ⟨p, m⟩ := pn
          obtain ⟨h1, h2⟩ := decode_of_first hf
          rw [h1] at he
          exact absurd he h2
      · rw [if_neg he]
        have hf := first_of_decode h0 he
        rw [points_some hf, valid_points n _ (by have := decodeL_width l; rw [List.length_drop]; omega)]
        cases points (l.drop (decodeL l).2) <;> rfl
theorem validD_points (l : List UInt8) : validD l = (points l).isSome := valid_points _ l (Nat.le_refl _)
end Go.Proofs.YthcabnfcgjnlnaaGreatDoor.Ru
/-
  A RANGE OVER A FUNCTION WHOSE BODY NEVER LEAVES: the round is told that what it is handed is what comes next.
-/
namespace Go.Proofs.YthcabnfcgjnlnaaGreatDoor
open Go Go.RowKit
set_option linter.unusedVariables false
variable {F : Fence} {n : Nat} {P : Program}

/-- The iterator's word: if each round that is handed what comes next ('Nx') goes on, and keeps the caller's J, then all come (S). -/
def SeqNext {α : Type} (F : Fence) (n : Nat) (P : Program) (g : Nat) (lb : Array Value) (encs : α → Array Value) (Nx : List α → α → Prop) (S : List α → Prop) (w : World) : Prop :=
  ∀ (l : Nat) (J : List α → World → Prop) (W : World), Below w.heap.size w W → AbidesFrom W.heap.size J →
    (∀ pre x W1, J pre W1 → Nx pre x → YieldAt F (n - 1) P l (encs x) W1 fun e W' => e = .returned (.bool true) ∧ J (pre ++ [x]) W' ∧ KeepsWalks W1 W') →
    J [] W → CallsIn F n P g (#[.func (.yield l) #[] #[]] ++ lb) W fun e W' => (∃ v, e = .returned v) ∧ ∃ xs, S xs ∧ J xs W'
/-- How a round's body ends. -/
def GoesOn (R : World → Prop) (W : World) : Exit → Act → World → Prop
  | .normal, _, W' => KeepsOthers W W' ∧ KeepsWalks W W' ∧ R W'
  | _, _, _ => False
/-- What the loop's own two objects look like between rounds. -/
structure Books (rec : LoopState → Option Code → Loop) (b : Nat) (W : World) : Prop where
  loop : W.heap[b + 1]? = some (.loop (rec .ready none))
  defs : W.heap[b]? = some (.deferred (some []))
theorem Books.lt {rec : LoopState → Option Code → Loop} {b : Nat} {W : World} (h : Books rec b W) : b + 1 < W.heap.size := (Array.getElem?_eq_some_iff.1 h.loop).1
theorem Books.step {rec : LoopState → Option Code → Loop} {b : Nat} {A B : World} {row : Option Nat} (h : Books rec b A) (hg : A.grownBy B row) (hr : ∀ r, row = some r → ∃ o : Obj, A.heap[r]? = some o ∧ o.isWalk = true) : Books rec b B :=
  ⟨(grownBy_keeps hg hr h.loop rfl).trans h.loop, (grownBy_keeps hg hr h.defs rfl).trans h.defs⟩

theorem wpIn_range_next {α : Type} {g : Operand} {ps : Array Tmp} {assign body : Code} {Q : Exit → Act → World → Prop} {a : Act} {w : World}
    (hro : F.round = none) (h1 : 1 ≤ n) {gf : Nat} {lb : Array Value} (hg : a.eval g = .func (.func gf) #[] lb) (hFg : F.fn gf) (eg : ∀ args w, (callFunc gf args).run P w = .ok (.enter gf args) w)
    {encs : α → Array Value} {Nx : List α → α → Prop} {S : List α → Prop} {w0 : World} (hseq : SeqNext F (n - 1) P gf lb encs Nx S w0) (hb0 : Below w0.heap.size w0 w) (hps : ∀ x, (encs x).size = ps.size)
    (I : List α → World → Prop) (hI : OwnFrom w.heap.size I) (h0 : I [] w) (a₁ : α → Act)
    (hassign : ∀ (l : Nat) (x : α) (W : World) (K : Act → World → Prop), K (a₁ x) W →
      assign.wpIn (F.inRound l) (n - 1 - 1) P (Exit.then K (fun _ _ _ => False)) { tmps := (ps.zip (encs x)).foldl (fun t (p, v) => t.setIfInBounds p v) a.tmps, defers := [] } W)
    (hbody : ∀ (l : Nat) (pre : List α) (x : α) (W : World), I pre W → Nx pre x → body.wpIn (F.inRound l) (n - 1 - 1) P (GoesOn (I (pre ++ [x])) W) (a₁ x) W)
    (hdone : ∀ (D : Nat) (xs : List α) (W : World), w.heap.size ≤ D → S xs → I xs W → W.heap[D]? = some (.deferred (some [])) → Q .normal { a with defers := { target := .collected D, args := #[] } :: a.defers } W) :
    (Code.rangeFunc g ps assign body).wpIn F n P Q a w := by
  refine wpIn_rangeFunc fun fn hfn => ?_
  rw [hro]
  obtain ⟨rec, hrec⟩ : ∃ rec : LoopState → Option Code → Loop, rec = fun st pe => { state := st, pending := pe, fn, tmps := a.tmps, params := ps, assign, body, defers := w.heap.size } := ⟨_, rfl⟩
  obtain ⟨W1, hW1⟩ : ∃ W1, W1 = (w.alloc (.deferred (some []))).alloc (.loop (rec .ready none)) := ⟨_, rfl⟩
  have hz1 : W1.heap.size = w.heap.size + 2 := by rw [hW1]; simp
  have hB1 : Books rec w.heap.size W1 := by
    subst hW1
    refine ⟨?_, ?_⟩
    · have := World.alloc_heap_new (w.alloc (.deferred (some []))) (.loop (rec .ready none))
      rwa [World.size_alloc] at this
    · exact (Below.heap_alloc _ _ _ (by simp)).trans (World.alloc_heap_new w _)
  have hI1 : I [] W1 := by subst hW1; exact hI.alloc _ (hI.alloc _ h0)
  have hb1 : Below w0.heap.size w0 W1 := by
    subst hW1
    exact hb0.trans ((((Below.refl _ w).alloc (Nat.le_refl _) _).alloc (by simp) _).mono hb0.size)
  have hwalk : ∀ {A : World} {row : Option Nat}, (∀ r, row = some r → W1.heap.size ≤ r ∧ ∃ o : Obj, A.heap[r]? = some o ∧ o.isWalk = true) → ∀ r, row = some r → w.heap.size ≤ r ∧ ∃ o : Obj, A.heap[r]? = some o ∧ o.isCells = false :=
    fun hr r e => by
      obtain ⟨hB, o, ho, hw⟩ := hr r e
      exact ⟨by omega, o, ho, Obj.not_cells_of_walk hw⟩
  refine ⟨w.heap.size + 1, [{ target := .collected w.heap.size, args := #[] }], W1, { target := .fn (.func gf) lb, args := #[.func (.yield (w.heap.size + 1)) #[] #[]] }, W1, gf,
    #[.func (.yield (w.heap.size + 1)) #[] #[]] ++ lb, W1, ?_, ?_, ?_, ?_, fun _ => h1, ?_⟩
  · rw [hW1, hrec]; exact run_enterLoop_outer _ _ _ _ _
  · simp only [resolve, hg]
    simp [go_sem]
  · intro f' hf'
    simp [Target.leads] at hf'
    subst hf'
    exact hFg
  · simp [invoke, go_sem, eg]
  refine (hseq (w.heap.size + 1) (fun pre W => I pre W ∧ Books rec w.heap.size W) W1 hb1
    (fun s A B row hs hg' hr => ⟨hI s A B row hs.1 hg' (hwalk hr), hs.2.step hg' fun r e => (hr r e).2⟩) ?_ ⟨hI1, hB1⟩).mono ?_
  · rintro pre x W ⟨hi, hbk⟩ hnx
    have hlt := hbk.lt
    have hl := hbk.loop
    have hy := run_yield (P := P) (args := encs x) hl (by rw [hrec]; exact hps x)
    rw [hrec] at hy
    refine ⟨fn, _, assign, body, hy, roundIn_of_wpIn hfn (hassign _ x W _ ⟨_, run_beginRound hl (by rw [hrec]), ?_⟩)⟩
    obtain ⟨Wb, hWb⟩ : ∃ Wb, Wb = W.putObj (w.heap.size + 1) (.loop { rec .ready none with state := .busy }) := ⟨_, rfl⟩
    rw [← hWb]
    have hl2 : Wb.heap[w.heap.size + 1]? = some (.loop { rec .ready none with state := .busy }) := by rw [hWb]; exact World.putObj_heap_same hlt
    have hk2 : Wb.heap[w.heap.size]? = some (.deferred (some [])) := by rw [hWb]; exact (World.putObj_heap_other (by omega)).trans hbk.defs
    have hw2 : KeepsWalks W Wb := by rw [hWb]; exact KeepsWalks.putObj _ hl rfl
    have hi2 : I pre Wb := by rw [hWb]; exact hI.putObj _ hi (by omega) hl rfl
    refine wpIn_mono (hbody _ pre x Wb hi2 hnx) ?_
    rintro e a3 W3 hp
    cases e with
    | normal =>
      obtain ⟨ho3, hk3, hi3⟩ := hp
      have hl3 := ho3.same _ _ hl2 rfl
      have hr := run_endRound (P := P) none hl3
      rw [hrec] at hr
      refine ⟨_, _, hr, rfl, ⟨hI.putObj _ hi3 (by omega) hl3 rfl, ?_, (World.putObj_heap_other (by omega)).trans (ho3.same _ _ hk2 rfl)⟩, (hw2.trans hk3).trans (KeepsWalks.putObj _ hl3 rfl)⟩
      rw [hrec]
      exact World.putObj_heap_same (Array.getElem?_eq_some_iff.1 hl3).1
    | ret => exact hp.elim
    | exit id => exact hp.elim
    | goto t => exact hp.elim
    | panic ch => exact hp.elim
    | outgrown => exact hp.elim
  · rintro e W2 ⟨⟨v, rfl⟩, xs, hS, hi, hbk⟩
    have hr := run_endLoop (P := P) hbk.loop (by rw [hrec]; simp)
    rw [hrec] at hr
    exact ⟨none, _, hr, hdone _ xs _ (Nat.le_refl _) hS (hI.putObj _ hi (by omega) hbk.loop rfl) ((World.putObj_heap_other (by omega)).trans hbk.defs)⟩
end Go.Proofs.YthcabnfcgjnlnaaGreatDoor
