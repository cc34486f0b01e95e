import Derived.Test.YthcabnfcgjnlnaaGreatDoorB04
import Derived.Lib.Small
set_option linter.unusedVariables false
set_option linter.unusedSimpArgs false
namespace Go.Proofs.YthcabnfcgjnlnaaGreatDoor
section
open Go.RowKit Ru Lay
attribute [local go_sem ↓] Go.wp_at_zero Go.wp_at_succ
def textN (l : List Nt) (id : Int) : ByteArray := ((getN l id).getD nt0).text
end
end Go.Proofs.YthcabnfcgjnlnaaGreatDoor
namespace Go.Proofs.YthcabnfcgjnlnaaGreatDoor.Col
def preB (v s : List UInt8) : Bool := v.isPrefixOf s
abbrev Acc := Nat × Nat × Nat × Bool
def stepF (s : List UInt8) (acc : Acc) (i k : Nat) (v : List UInt8) : Acc := if acc.2.2.1 < v.length /\ preB v s = true then (i, k, v.length, true) else acc
def innerF (s : List UInt8) (l : List ByteArray) (i : Nat) (acc : Acc) : Nat -> Acc
 | 0 => acc
 | k + 1 => stepF s (innerF s l i acc k) i k (l.getD k default).data.toList
def outerF (s : List UInt8) (L : List (List ByteArray)) : Nat -> Acc
 | 0 => (0, 0, 0, false)
 | i + 1 => innerF s (L.getD i []) i (outerF s L i) (L.getD i []).length
def firstF (L : List (List ByteArray)) (s : List UInt8) : Acc := outerF s L L.length
def take1 (L : List (List ByteArray)) (s : List UInt8) : Nat × Nat × Bool × Nat :=
 match firstF L s with
 | (a, b, m, true) => (a, b, true, m)
 | (_, _, _, false) => (L.length + (s.headD 0).toNat, 0, false, 1)
def lettersN (L : List (List ByteArray)) : Nat -> List UInt8 -> List (Nat × Nat × Bool)
 | 0, _ => []
 | f + 1, s => if s = [] then [] else ((take1 L s).1, (take1 L s).2.1, (take1 L s).2.2.1) :: lettersN L f (s.drop (take1 L s).2.2.2)
def letters (L : List (List ByteArray)) (s : List UInt8) : List (Nat × Nat × Bool) := lettersN L s.length s
end Go.Proofs.YthcabnfcgjnlnaaGreatDoor.Col
namespace Go.Proofs.YthcabnfcgjnlnaaGreatDoor.Col
end Go.Proofs.YthcabnfcgjnlnaaGreatDoor.Col
namespace Go.Proofs.YthcabnfcgjnlnaaGreatDoor.Col
end Go.Proofs.YthcabnfcgjnlnaaGreatDoor.Col
namespace Go.Proofs.YthcabnfcgjnlnaaGreatDoor
section
open Go.RowKit
def RowsR (w : World) (B : Nat) (A : Option Addr) (n : Nat) (L : List (List ByteArray)) : Prop :=
 ∃ xs, Reads w B 1 A n xs /\ L.length = n /\ ∀ (i : Nat) (l : List ByteArray), L[i]? = some l -> ∃ A' n' c', xs[i]? = some (Value.slice A' n' c') /\ SR w B A' n' l
theorem SR.below {w w' : World} {B : Nat} {A : Option Addr} {n : Nat} {l : List ByteArray} (h : SR w B A n l) (hb : Below B w w') : SR w' B A n l := Reads.below h hb
theorem RowsR.at_ {w : World} {B : Nat} {A : Option Addr} {n k : Nat} {L : List (List ByteArray)} (h : RowsR w B A n L) (hk : k < n) :
  ∃ ad l A' n' c', A = some ad /\ ad.block < B /\ L[k]? = some l /\ w.cell? (ad.add k) = some (Value.slice A' n' c') /\ SR w B A' n' l := by
 obtain ⟨xs, hr, hl, hi⟩ := h;obtain ⟨ad, u, e, hb, hx, hc⟩ := hr.at_ hk;have hlt : k < L.length := by omega
 obtain ⟨A', n', c', hx', hs⟩ := hi k L[k] (List.getElem?_eq_getElem hlt);rw [hx] at hx'
 cases hx'
 exact ⟨ad, L[k], A', n', c', e, hb, List.getElem?_eq_getElem hlt, hc, hs⟩
theorem RowsR.len {w : World} {B : Nat} {A : Option Addr} {n : Nat} {L : List (List ByteArray)} (h : RowsR w B A n L) : L.length = n := by obtain ⟨xs, hr, hl, hi⟩ := h; exact hl
theorem RowsR.below {w w' : World} {B : Nat} {A : Option Addr} {n : Nat} {L : List (List ByteArray)} (h : RowsR w B A n L) (hb : Below B w w') : RowsR w' B A n L := by
 obtain ⟨xs, hr, hl, hi⟩ := h;refine ⟨xs, hr.below hb, hl, fun i l hil => ?_⟩;obtain ⟨A', n', c', hx', hs⟩ := hi i l hil;exact ⟨A', n', c', hx', hs.below hb⟩
end
end Go.Proofs.YthcabnfcgjnlnaaGreatDoor
namespace Go.Proofs.YthcabnfcgjnlnaaGreatDoor.Col
structure IsCmpS {α : Type} (c : α -> α -> Int) : Prop where
 range : ∀ x y, c x y = -1 ∨ c x y = 0 ∨ c x y = 1
 anti : ∀ x y, c y x = - c x y
 trans : ∀ x y z, c x y <= 0 -> c y z <= 0 -> c x z = min (c x y) (c y z)
theorem IsCmpS.self {α : Type} {c : α -> α -> Int} (h : IsCmpS c) (x : α) : c x x = 0 := by have := h.anti x x; omega
theorem IsCmpS.comap {α β : Type} {c : α -> α -> Int} (h : IsCmpS c) (f : β -> α) : IsCmpS (fun x y => c (f x) (f y)) := ⟨fun _ _ => h.range _ _, fun _ _ => h.anti _ _, fun _ _ _ => h.trans _ _ _⟩
end Go.Proofs.YthcabnfcgjnlnaaGreatDoor.Col
namespace Go.Proofs.YthcabnfcgjnlnaaGreatDoor
section
open Go.RowKit Ru Lay
attribute [local go_sem ↓] Go.wp_at_zero Go.wp_at_succ
structure BoxOr (w : World) (b : Nat) (nm : ByteArray) (UA : Option Addr) (un uc : Nat) (LA : Option Addr) (ln lc : Nat) : Prop where
 lt : b < w.heap.size
 k0 : w.cell? ⟨b, 0, none⟩ = some (.string nm)
 k1 : w.cell? ⟨b, 1, none⟩ = some (.slice UA un uc)
 k2 : w.cell? ⟨b, 2, none⟩ = some (.slice LA ln lc)
theorem BoxOr.on {w w' : World} {b un uc ln lc : Nat} {nm : ByteArray} {UA LA : Option Addr} (h : BoxOr w b nm UA un uc LA ln lc) (hb : Below w.heap.size w w') : BoxOr w' b nm UA un uc LA ln lc :=
 ⟨Nat.lt_of_lt_of_le h.lt hb.size, (hb.cell (p := ⟨b, 0, none⟩) h.lt).trans h.k0, (hb.cell (p := ⟨b, 1, none⟩) h.lt).trans h.k1, (hb.cell (p := ⟨b, 2, none⟩) h.lt).trans h.k2⟩
def orI (l : List Int) : Int := (l.find? fun z => decide (z ≠ 0)).getD 0
theorem orI_here {l : List Int} {k : Nat} {x : Int} (hp : ∀ j y, j < k -> l[j]? = some y -> y = 0) (hx : l[k]? = some x) (h : x ≠ 0) : orI l = x := by
 induction l generalizing k with
 | nil => simp at hx
 | cons y t ih =>
  unfold orI
  cases k with
  | zero =>
   simp at hx
   subst hx;rw [List.find?_cons_of_pos (by simpa using h)];rfl
  | succ k =>
   rw [List.find?_cons_of_neg (by simpa using hp 0 y (by omega) rfl)];rw [List.getElem?_cons_succ] at hx;exact ih (fun j z hj hz => hp (j + 1) z (by omega) (by rw [List.getElem?_cons_succ]; exact hz)) hx
theorem orI_none {l : List Int} (hp : ∀ j y, j < l.length -> l[j]? = some y -> y = 0) : orI l = 0 := by
 unfold orI
 rw [List.find?_eq_none.2 fun x hx => by
  obtain ⟨j, hj⟩ := List.getElem?_of_mem hx;simpa using hp j x (List.getElem?_eq_some_iff.1 hj).1 hj]
 rfl
theorem zero_step {l : List Int} {i : Nat} {x : Int} (h : ∀ j y, j < i -> l[j]? = some y -> y = 0) (hx : l[i]? = some x) (hq : x = 0) : ∀ j y, j < i + 1 -> l[j]? = some y -> y = 0 := fun j y hj hy => by
 by_cases e : j = i
 ·subst e;rw [hx] at hy
  cases hy;exact hq
 ·exact h j y (by omega) hy
set_option maxHeartbeats 1000000 in
theorem cmpOr_any (A : Option Addr) (n c : Nat) (l : List Int) (w : World) (hl : IR w w.heap.size A n l) (hn : n <= 1000) :
  Calls Tryz.prog 115 #[.slice A n c] w fun e w' => e = .returned (.int .i64 (orI l)) /\ w' = w := by
 have HL := hI hl;have HN := hI hl.len;clear hl;go_enter Tryz.func115, Tryz.ntmps115
 go_wp2_with fail
 go_loop [5, 8] (fun v5 v8 => ∃ i : Nat, i <= n /\ v8 = .int .i64 i /\ Hid (∀ j y, j < i -> l[j]? = some y -> y = 0)) (fun _ v8 => n - (intOf v8).toNat)
 case atStart => exact ⟨0, Nat.zero_le _, rfl, fun j y h => by omega⟩
 case round =>
  obtain ⟨i, hi, rfl, HP⟩ := hrel;by_cases hlt : i < n
  ·have hiz : (i : Int) < (n : Int) := by omega
   have hiA : (0 : Int) <= (i : Int) := by omega
   obtain ⟨ad, x, rfl, _, hx, hc⟩ := HL.out.at_ hlt;have HX := hI hx;have HI := hI hlt;clear hx;by_cases h0 : x = 0
   ·have HP2 := hI (zero_step HP.out HX.out h0);subst h0;go_wp2;go_round
    case rel => exact ⟨i + 1, HI.out, by go_num, HP2⟩
    case measure => have := HI.out; simp [intOf]; omega
   ·have hne : (x != 0) = true := by rw [bne_iff_ne]; exact h0
    have HR := hI (orI_here HP.out HX.out h0);go_wp2;go_ret;exact ⟨ret_i64 HR.out.symm, rfl⟩
  ·obtain rfl : n = i := by omega
   have hiz : ¬ (n : Int) < (n : Int) := by omega
   have HR : Hid (orI l = 0) := orI_none fun j y hj => HP.out j y (by rw [<- HN.out]; exact hj)
   go_wp2;go_ret;exact ⟨ret_i64 HR.out.symm, rfl⟩
end
section
open Go.RowKit Ru Lay Srt Col
theorem cmpInt_is : IsCmp Lib.compareInt := ⟨fun x y => by unfold Lib.compareInt; split <;> split <;> omega, fun x y z => by
 unfold Lib.compareInt;split <;> split <;> split <;> (try split) <;> (try split) <;> (try split) <;> omega⟩
theorem orI_cons (x : Int) (l : List Int) : orI (x :: l) = if x = 0 then orI l else x := by
 unfold orI;by_cases h : x = 0
 ·rw [List.find?_cons_of_neg (by simpa using h), if_pos h]
 ·rw [List.find?_cons_of_pos (by simpa using h), if_neg h];rfl
theorem or_is {α : Type} {c d : α -> α -> Int} (h : IsCmp c) (k : IsCmp d) : IsCmp (fun x y => if c x y = 0 then d x y else c x y) := by
 refine ⟨fun x y => ?_, fun x y z => ?_⟩
 ·have h1 := h.anti x y;have h2 := k.anti x y;show (if c y x = 0 then _ else _) = - (if c x y = 0 then _ else _);split <;> split <;> omega
 ·have h1 := h.trans x y z;have h2 := k.trans x y z;show (if c x y = 0 then _ else _) <= 0 -> (if c y z = 0 then _ else _) <= 0 -> (if c x z = 0 then _ else _) <= 0 /\ ((if c x z = 0 then _ else _) = 0 -> (if c x y = 0 then _ else _) = 0 /\ (if c y z = 0 then _ else _) = 0);split <;> split <;> split <;> omega
theorem zero_is {α : Type} : IsCmp (fun _ _ : α => (0 : Int)) := ⟨fun _ _ => rfl, fun _ _ _ _ _ => ⟨Int.le_refl _, fun _ => ⟨rfl, rfl⟩⟩⟩
theorem isCmp_congr {α : Type} {c d : α -> α -> Int} (h : IsCmp c) (e : ∀ x y, d x y = c x y) : IsCmp d := by
 have : d = c := funext fun x => funext fun y => e x y
 rw [this]; exact h
def ordN (a b : Nt) : Int := orI [Lib.compareInt a.parent b.parent, Lib.compareInt a.at1 b.at1, Lib.compareInt a.rank b.rank]
theorem ordN_is : IsCmp ordN := by
 have h1 : IsCmp fun a b : Nt => Lib.compareInt a.parent b.parent := cmpInt_is.comap Nt.parent
 have h2 : IsCmp fun a b : Nt => Lib.compareInt a.at1 b.at1 := cmpInt_is.comap Nt.at1
 have h3 : IsCmp fun a b : Nt => Lib.compareInt a.rank b.rank := cmpInt_is.comap Nt.rank
 refine isCmp_congr (or_is h1 (or_is h2 (or_is h3 zero_is))) fun x y => ?_
 unfold ordN;rw [orI_cons, orI_cons, orI_cons];rfl
def sibs (tn : Nat) (l : List Nt) (id tier : Int) : List Nt := l.filter fun n => decide (n.tier = tier /\ n.parent = id /\ 0 <= tier /\ tier < (tn : Int))
theorem sibs_next {tn : Nat} {l : List Nt} {id tier : Int} {i : Nat} {x : Nt} (hx : l[i]? = some x) : sibs tn (l.take (i + 1)) id tier = sibs tn (l.take i) id tier ++ (if x.tier = tier /\ x.parent = id /\ 0 <= tier /\ tier < (tn : Int) then [x] else []) := by
 unfold sibs;rw [take_at2 hx, List.filter_append, List.filter_cons];simp
theorem sibs_len {tn : Nat} {l : List Nt} {id tier : Int} : (sibs tn l id tier).length <= l.length := List.length_filter_le _ _
def insN (x : Nt) : List Nt -> List Nt
 | [] => [x]
 | y :: l => if ordN x y < 0 then x :: y :: l else y :: insN x l
def sortN : List Nt -> List Nt := fun l => l.foldl (fun acc x => insN x acc) []
theorem insN_split (x : Nt) : ∀ l, ∃ k, k <= l.length /\ insN x l = l.take k ++ x :: l.drop k /\ (∀ j y, j < k -> l[j]? = some y -> 0 <= ordN x y) /\ (∀ y, l[k]? = some y -> ordN x y < 0)
 | [] => ⟨0, Nat.le_refl _, rfl, fun j y h => by omega, fun y h => by simp at h⟩
 | y :: l => by
  unfold insN;split
  ·rename_i h
   exact ⟨0, Nat.zero_le _, rfl, fun j z hj => by omega, fun z hz => by simp at hz; subst hz; exact h⟩
  ·rename_i h
   obtain ⟨k, h1, h2, h3, h4⟩ := insN_split x l;refine ⟨k + 1, by simpa using h1, by rw [h2]; rfl, fun j z hj hz => ?_, fun z hz => by rw [List.getElem?_cons_succ] at hz; exact h4 z hz⟩
   cases j with
   | zero => simp at hz; subst hz; omega
   | succ j => rw [List.getElem?_cons_succ] at hz; exact h3 j z (by omega) hz
theorem sortN_stable (l : List Nt) : ∀ k, k <= l.length -> StableOf ordN (l.take k) (sortN (l.take k))
 | 0, _ => by rw [List.take_zero]; exact stable_nil
 | k + 1, h => by
  have ih := sortN_stable l k (by omega);have hx : l[k]? = some l[k] := List.getElem?_eq_getElem (by omega);obtain ⟨at_, h1, h2, h3, h4⟩ := insN_split l[k] (sortN (l.take k));have e : sortN (l.take (k + 1)) = insN l[k] (sortN (l.take k)) := by unfold sortN; rw [take_at2 hx, List.foldl_append]; rfl
  rw [e, h2];refine stable_insert ordN_is ih hx h1 (fun y h0 hy => h3 _ y (by omega) hy) (fun j y hj hy => ?_);by_cases e2 : j = at_
  ·subst e2; exact h4 y hy
  ·obtain ⟨hj2, hyj⟩ := List.getElem?_eq_some_iff.1 hy;have hk2 : at_ < (sortN (l.take k)).length := by omega
   have g1 := h4 _ (List.getElem?_eq_getElem hk2)
   have g2 : ordN (sortN (l.take k))[at_] y <= 0 := by
    rw [<- hyj];exact List.pairwise_iff_getElem.1 ih.sorted at_ j hk2 hj2 (by omega)
   have g3 := ordN_is.trans l[k] (sortN (l.take k))[at_] y (by omega) g2;omega
theorem sortN_of {l ys : List Nt} (h : StableOf ordN l ys) : ys = sortN l := by
 have h1 := sortN_stable l l.length (Nat.le_refl _);rw [List.take_length] at h1;exact h.unique ordN_is h1
def kidsL (tn : Nat) (l : List Nt) (id tier : Int) : List Int := (sortN (sibs tn l id tier)).map Nt.nid
theorem kidsL_len {tn : Nat} {l : List Nt} {id tier : Int} : (kidsL tn l id tier).length <= l.length := by
 unfold kidsL;have h1 := sortN_stable (sibs tn l id tier) _ (Nat.le_refl _);rw [List.take_length] at h1;rw [List.length_map, h1.perm.length_eq];exact sibs_len
def ht0 : Ht := { rid := 0, nid := 0, left := [], key := ⟨#[]⟩, right := [] }
structure Ti where
 name : ByteArray
 kind : Int
 role : Int
 parent : Int
def ti0 : Ti := ⟨⟨#[]⟩, 0, 0, 0⟩
def tierT (T : List Ti) (t : Int) : Ti := T.getD t.toNat ti0
def timedK (k : Int) : Bool := decide (k = 0) || (decide (k = 1) || decide (k = 2))
def keyT (T : List Ti) (x : Nt) : Int := if timedK (tierT T x.tier).kind = true then x.at1 else x.rank
structure LightN (T : List Ti) (l : List Nt) : Prop where
 ids : l.Pairwise fun x y => x.nid < y.nid
 tier : ∀ x ∈ l, 0 <= x.tier /\ x.tier < (T.length : Int)
 par : ∀ x ∈ l, ((tierT T x.tier).kind = 0 /\ x.parent = 0) ∨ ((tierT T x.tier).kind ≠ 0 /\ ∃ p, getN l x.parent = some p /\ p.tier = (tierT T x.tier).parent /\ p.tier < x.tier)
 own : ∀ x ∈ l, if timedK (tierT T x.tier).kind = true then x.rank = 0 else x.at1 = 0
 sib : ∀ x ∈ l, ∀ y ∈ l, x.tier = y.tier -> x.parent = y.parent -> keyT T x = keyT T y -> x = y
theorem getN_mem {l : List Nt} {id : Int} {x : Nt} (h : getN l id = some x) : x ∈ l /\ x.nid = id := by
 unfold getN at h;exact ⟨List.mem_of_find?_eq_some h, by simpa using List.find?_some h⟩
theorem LightN.inj {T : List Ti} {l : List Nt} (h : LightN T l) {x y : Nt} (hx : x ∈ l) (hy : y ∈ l) (e : x.nid = y.nid) : x = y := by
 obtain ⟨i, hi⟩ := List.getElem?_of_mem hx;obtain ⟨j, hj⟩ := List.getElem?_of_mem hy;obtain ⟨hil, hix⟩ := List.getElem?_eq_some_iff.1 hi;obtain ⟨hjl, hjy⟩ := List.getElem?_eq_some_iff.1 hj;rcases Nat.lt_trichotomy i j with h1 | h1 | h1
 ·have := List.pairwise_iff_getElem.1 h.ids i j hil hjl h1;rw [hix, hjy] at this; omega
 ·subst h1; rw [hi] at hj; cases hj; rfl
 ·have := List.pairwise_iff_getElem.1 h.ids j i hjl hil h1;rw [hix, hjy] at this; omega
theorem LightN.get {T : List Ti} {l : List Nt} (h : LightN T l) {x : Nt} (hx : x ∈ l) : getN l x.nid = some x := by
 cases e : getN l x.nid with
 | none =>
  unfold getN at e;rw [List.find?_eq_none] at e;have := e x hx;simp at this
 | some y =>
  obtain ⟨h1, h2⟩ := getN_mem e;rw [h.inj h1 hx h2]
def parN (l : List Nt) (x : Nt) : Nt := (getN l x.parent).getD nt0
def befF (T : List Ti) (l : List Nt) : Nat -> Nt -> Nt -> Bool
 | 0, _, _ => false
 | f + 1, a, b => if a.parent = b.parent then decide (keyT T a < keyT T b) else befF T l f (parN l a) (parN l b)
theorem LightN.up {T : List Ti} {l : List Nt} (h : LightN T l) {a b : Nt} {f : Nat} (ha : a ∈ l) (hb : b ∈ l) (ht : a.tier = b.tier) (hf : a.tier < ((f + 1 : Nat) : Int)) (hp : a.parent ≠ b.parent) :
  parN l a ∈ l /\ parN l b ∈ l /\ (parN l a).tier = (parN l b).tier /\ (parN l a).tier < (f : Int) /\ (parN l a).nid = a.parent /\ (parN l b).nid = b.parent := by
 rcases h.par a ha with ⟨k0, p0⟩ | ⟨k0, p, hg, hpt, hlt⟩
 ·rcases h.par b hb with ⟨k1, p1⟩ | ⟨k1, _⟩
  ·exact absurd (p0.trans p1.symm) hp
  ·rw [ht] at k0; exact absurd k0 k1
 ·rcases h.par b hb with ⟨k1, _⟩ | ⟨_, q, hg2, hqt, hlt2⟩
  ·rw [<- ht] at k1; exact absurd k1 k0
  ·have e1 : parN l a = p := by unfold parN; rw [hg]; rfl
   have e2 : parN l b = q := by unfold parN; rw [hg2]; rfl
   obtain ⟨m1, n1⟩ := getN_mem hg;obtain ⟨m2, n2⟩ := getN_mem hg2;rw [e1, e2];exact ⟨m1, m2, by rw [hpt, hqt, ht], by omega, n1, n2⟩
theorem befF_conn {T : List Ti} {l : List Nt} (h : LightN T l) : ∀ (f : Nat) (a b : Nt), a ∈ l -> b ∈ l -> a.tier = b.tier -> a.tier < (f : Int) -> a ≠ b -> befF T l f a b = true ∨ befF T l f b a = true
 | 0, a, b, ha, _, _, hf, _ => by have := (h.tier a ha).1; omega
 | f + 1, a, b, ha, hb, ht, hf, hne => by
  unfold befF;by_cases hp : a.parent = b.parent
  ·rw [if_pos hp, if_pos hp.symm, decide_eq_true_eq, decide_eq_true_eq];by_cases hk : keyT T a = keyT T b
   ·exact absurd (h.sib a ha b hb ht hp hk) hne
   ·omega
  ·rw [if_neg hp, if_neg fun e => hp e.symm];obtain ⟨m1, m2, h3, h4, n1, n2⟩ := h.up ha hb ht hf hp;exact befF_conn h f _ _ m1 m2 h3 h4 fun e => hp (by rw [<- n1, <- n2, e])
theorem befF_asym {T : List Ti} {l : List Nt} (h : LightN T l) : ∀ (f : Nat) (a b : Nt), a ∈ l -> b ∈ l -> a.tier = b.tier -> a.tier < (f : Int) -> befF T l f a b = true -> befF T l f b a = true -> False
 | 0, a, b, ha, _, _, hf, _, _ => by have := (h.tier a ha).1; omega
 | f + 1, a, b, ha, hb, ht, hf, h1, h2 => by
  unfold befF at h1 h2;by_cases hp : a.parent = b.parent
  ·rw [if_pos hp, decide_eq_true_eq] at h1;rw [if_pos hp.symm, decide_eq_true_eq] at h2;omega
  ·rw [if_neg hp] at h1;rw [if_neg fun e => hp e.symm] at h2;obtain ⟨m1, m2, h3, h4, _, _⟩ := h.up ha hb ht hf hp;exact befF_asym h f _ _ m1 m2 h3 h4 h1 h2
theorem befF_trans {T : List Ti} {l : List Nt} (h : LightN T l) : ∀ (f : Nat) (a b c : Nt), a ∈ l -> b ∈ l -> c ∈ l -> a.tier = b.tier -> b.tier = c.tier -> a.tier < (f : Int) -> befF T l f a b = true -> befF T l f b c = true -> befF T l f a c = true
 | 0, a, b, c, ha, _, _, _, _, hf, _, _ => by have := (h.tier a ha).1; omega
 | f + 1, a, b, c, ha, hb, hc, ht, ht2, hf, h1, h2 => by
  unfold befF at h1 h2 |-;by_cases hp : a.parent = b.parent
  ·rw [if_pos hp, decide_eq_true_eq] at h1;by_cases hq : b.parent = c.parent
   ·rw [if_pos hq, decide_eq_true_eq] at h2;rw [if_pos (hp.trans hq), decide_eq_true_eq];omega
   ·rw [if_neg hq] at h2;rw [if_neg fun e => hq (hp.symm.trans e)];rwa [show parN l a = parN l b by unfold parN; rw [hp]]
  ·rw [if_neg hp] at h1;obtain ⟨m1, m2, h3, h4, n1, n2⟩ := h.up ha hb ht hf hp;by_cases hq : b.parent = c.parent
   ·rw [if_neg fun e => hp (e.trans hq.symm)];rwa [show parN l c = parN l b by unfold parN; rw [hq]]
   ·rw [if_neg hq] at h2;obtain ⟨_, m3, h5, _, _, n3⟩ := h.up (f := f) hb hc ht2 (by omega) hq;by_cases hr : a.parent = c.parent
    ·exfalso
     rw [show parN l c = parN l a by unfold parN; rw [hr]] at h2;exact befF_asym h f _ _ m1 m2 h3 h4 h1 h2
    ·rw [if_neg hr];exact befF_trans h f _ _ _ m1 m2 m3 h3 h5 h4 h1 h2
def posB (B : Nt -> Nt -> Bool) (x : Nt) (acc : List Nt) : Nat -> Nat
 | 0 => 0
 | k + 1 => if B x (acc.getD k nt0) = true then posB B x acc k else k + 1
def insB (B : Nt -> Nt -> Bool) (x : Nt) (acc : List Nt) : List Nt := acc.take (posB B x acc acc.length) ++ x :: acc.drop (posB B x acc acc.length)
def befT (T : List Ti) (l : List Nt) : Nt -> Nt -> Bool := fun a b => befF T l (a.tier.toNat + 1) a b
def ofK (T : List Ti) (l : List Nt) (tier : Int) : Nat -> List Nt
 | 0 => []
 | k + 1 => match l[k]? with
  | none => ofK T l tier k
  | some x => if x.tier = tier then insB (befT T l) x (ofK T l tier k) else ofK T l tier k
def ofL (T : List Ti) (l : List Nt) (tier : Int) : List Int := (ofK T l tier l.length).map Nt.nid
theorem ofK_some {T : List Ti} {l : List Nt} {tier : Int} {k : Nat} {x : Nt} (hx : l[k]? = some x) : ofK T l tier (k + 1) = if x.tier = tier then insB (befT T l) x (ofK T l tier k) else ofK T l tier k := by
 show (match l[k]? with | none => _ | some x => _) = _;rw [hx]
theorem posB_spec {B : Nt -> Nt -> Bool} {x : Nt} {acc : List Nt} : ∀ k, posB B x acc k <= k /\ (∀ j, posB B x acc k <= j -> j < k -> B x (acc.getD j nt0) = true) /\ (0 < posB B x acc k -> B x (acc.getD (posB B x acc k - 1) nt0) = false)
 | 0 => ⟨Nat.le_refl _, fun j _ h => by omega, fun h => by simp [posB] at h⟩
 | k + 1 => by
  obtain ⟨h1, h2, h3⟩ := posB_spec (B := B) (x := x) (acc := acc) k;unfold posB;by_cases hb : B x (acc.getD k nt0) = true
  ·rw [if_pos hb];refine ⟨by omega, fun j hj hjk => ?_, h3⟩;by_cases e : j = k
   ·subst e; exact hb
   ·exact h2 j hj (by omega)
  ·rw [if_neg hb];refine ⟨Nat.le_refl _, fun j hj hjk => by omega, fun _ => ?_⟩;rw [Nat.add_sub_cancel];simpa using hb
theorem insB_perm (B : Nt -> Nt -> Bool) (x : Nt) (acc : List Nt) : (insB B x acc).Perm (x :: acc) := by
 unfold insB;refine List.Perm.trans List.perm_middle ?_;rw [List.take_append_drop]
theorem ofK_perm {T : List Ti} {l : List Nt} {tier : Int} : ∀ k, k <= l.length -> (ofK T l tier k).Perm ((l.take k).filter fun x => decide (x.tier = tier))
 | 0, _ => by simp [ofK]
 | k + 1, h => by
  have hx : l[k]? = some l[k] := List.getElem?_eq_getElem (by omega);have ih := ofK_perm (T := T) (l := l) (tier := tier) k (by omega);rw [ofK_some hx, take_at2 hx, List.filter_append, List.filter_cons];by_cases e : l[k].tier = tier
  ·rw [if_pos e, if_pos (by simpa using e)];exact ((insB_perm _ _ _).trans (ih.cons _)).trans (List.perm_append_singleton _ _).symm
  ·rw [if_neg e, if_neg (by simpa using e)];simpa using ih
theorem ofK_mem {T : List Ti} {l : List Nt} {tier : Int} {k : Nat} {x : Nt} (hk : k <= l.length) (h : x ∈ ofK T l tier k) : x ∈ l.take k /\ x.tier = tier := by
 have := (ofK_perm k hk).mem_iff.1 h;rw [List.mem_filter] at this;exact ⟨this.1, by simpa using this.2⟩
theorem ofK_sorted {T : List Ti} {l : List Nt} {tier : Int} (hL : LightN T l) : ∀ k, k <= l.length -> (ofK T l tier k).Pairwise fun a b => befT T l a b = true
 | 0, _ => List.Pairwise.nil
 | k + 1, h => by
  have hkl : k < l.length := by omega
  have hx : l[k]? = some l[k] := List.getElem?_eq_getElem hkl;have ih := ofK_sorted (tier := tier) hL k (by omega);rw [ofK_some hx];by_cases e : l[k].tier = tier
  ·rw [if_pos e];obtain ⟨h1, h2, h3⟩ := posB_spec (B := befT T l) (x := l[k]) (acc := ofK T l tier k) (ofK T l tier k).length;have hxm : l[k] ∈ l := List.getElem_mem _
   have hmem : ∀ y ∈ ofK T l tier k, y ∈ l /\ y.tier = l[k].tier /\ l[k] ≠ y := fun y hy => by
    obtain ⟨g1, g2⟩ := ofK_mem (by omega) hy;refine ⟨List.mem_of_mem_take g1, by rw [g2, e], fun e2 => ?_⟩;obtain ⟨j, hj⟩ := List.getElem?_of_mem g1;rw [List.getElem?_take] at hj;split at hj
    ·rename_i hjk
     obtain ⟨hjl, hjy⟩ := List.getElem?_eq_some_iff.1 hj;have := List.pairwise_iff_getElem.1 hL.ids j k hjl hkl hjk;rw [hjy, e2] at this;omega
    ·cases hj
   have hlt : l[k].tier < ((l[k].tier.toNat + 1 : Nat) : Int) := by omega
   unfold insB;obtain ⟨p, hp⟩ : ∃ p, posB (befT T l) l[k] (ofK T l tier k) (ofK T l tier k).length = p := ⟨_, rfl⟩;rw [hp] at h1 h2 h3 |-;obtain ⟨acc, hacc⟩ : ∃ acc, ofK T l tier k = acc := ⟨_, rfl⟩;rw [hacc] at ih h1 h2 h3 hmem |-;have ih0 := ih;rw [<- List.take_append_drop p acc, List.pairwise_append] at ih
   have hleft : ∀ y ∈ acc.take p, befT T l y l[k] = true := fun y hy => by
    have hp0 : 0 < p := by
     rcases Nat.eq_zero_or_pos p with e0 | e0
     ·subst e0; simp at hy
     ·exact e0
    have hpl : p - 1 < acc.length := by omega
    obtain ⟨m1, m2, m3⟩ := hmem _ (List.getElem_mem hpl);have hb := h3 hp0;rw [List.getD, List.getElem?_eq_getElem hpl] at hb
    have hlast : befT T l acc[p - 1] l[k] = true := by
     unfold befT at hb |-;rw [m2];rcases befF_conn hL _ _ _ hxm m1 m2.symm hlt m3 with g | g
     ·rw [show befF T l (l[k].tier.toNat + 1) l[k] acc[p - 1] = false from hb] at g; cases g
     ·exact g
    obtain ⟨j, hj⟩ := List.getElem?_of_mem hy;rw [List.getElem?_take] at hj;split at hj
    ·rename_i hjp
     obtain ⟨hjl, hjy⟩ := List.getElem?_eq_some_iff.1 hj;by_cases ej : j = p - 1
     ·subst ej; rw [<- hjy]; exact hlast
     ·have g := List.pairwise_iff_getElem.1 ih0 j (p - 1) hjl hpl (by omega);rw [hjy] at g;obtain ⟨y1, y2, _⟩ := hmem y (by rw [<- hjy]; exact List.getElem_mem _);unfold befT at g hlast |-;rw [y2] at g |-;rw [m2] at hlast;exact befF_trans hL _ _ _ _ y1 m1 hxm (by rw [y2, m2]) m2 (by omega) g hlast
    ·cases hj
   have hright : ∀ y ∈ acc.drop p, befT T l l[k] y = true := fun y hy => by
    obtain ⟨j, hj⟩ := List.getElem?_of_mem hy;rw [List.getElem?_drop] at hj;obtain ⟨hjl, hjy⟩ := List.getElem?_eq_some_iff.1 hj;have := h2 (p + j) (by omega) hjl;rw [List.getD, hj] at this;exact this
   rw [List.pairwise_append];refine ⟨ih.1, List.pairwise_cons.2 ⟨hright, ih.2.1⟩, fun y hy z hz => ?_⟩;rcases List.mem_cons.1 hz with rfl | hz
   ·exact hleft y hy
   ·exact ih.2.2 y hy z hz
  ·rw [if_neg e]; exact ih
theorem compareInt_zero {a b : Int} (h : Lib.compareInt a b = 0) : a = b := by
 unfold Lib.compareInt at h;split at h
 ·cases h
 ·split at h
  ·cases h
  ·omega
theorem ordN_zero {a b : Nt} (h : ordN a b = 0) : a.parent = b.parent /\ a.at1 = b.at1 /\ a.rank = b.rank := by
 unfold ordN at h;rw [orI_cons, orI_cons, orI_cons] at h;by_cases h1 : Lib.compareInt a.parent b.parent = 0
 ·rw [if_pos h1] at h;by_cases h2 : Lib.compareInt a.at1 b.at1 = 0
  ·rw [if_pos h2] at h;by_cases h3 : Lib.compareInt a.rank b.rank = 0
   ·exact ⟨compareInt_zero h1, compareInt_zero h2, compareInt_zero h3⟩
   ·rw [if_neg h3] at h; exact absurd h h3
  ·rw [if_neg h2] at h; exact absurd h h2
 ·rw [if_neg h1] at h; exact absurd h h1
theorem ordN_le {T : List Ti} {l : List Nt} (hL : LightN T l) {a b : Nt} (ha : a ∈ l) (hb : b ∈ l) (ht : a.tier = b.tier) (hp : a.parent = b.parent) (h : befT T l a b = true) : ordN a b <= 0 := by
 unfold befT befF at h;rw [if_pos hp, decide_eq_true_eq] at h;have o1 := hL.own a ha;have o2 := hL.own b hb;unfold keyT at h;rw [<- ht] at h o2;unfold ordN;rw [orI_cons, orI_cons, orI_cons, show Lib.compareInt a.parent b.parent = 0 by rw [hp]; unfold Lib.compareInt; simp, if_pos rfl];by_cases hk : timedK (tierT T a.tier).kind = true
 ·rw [if_pos hk] at o1 o2;rw [if_pos hk, if_pos hk] at h;rw [show Lib.compareInt a.at1 b.at1 = -1 by unfold Lib.compareInt; rw [if_pos h], if_neg (by decide)];decide
 ·rw [if_neg hk] at o1 o2;rw [if_neg hk, if_neg hk] at h;rw [show Lib.compareInt a.at1 b.at1 = 0 by rw [o1, o2]; rfl, if_pos rfl, show Lib.compareInt a.rank b.rank = -1 by unfold Lib.compareInt; rw [if_pos h], if_neg (by decide)];decide
theorem ofK_sibs {T : List Ti} {l : List Nt} (hL : LightN T l) (id tier : Int) (ht : 0 <= tier /\ tier < (T.length : Int)) : (ofK T l tier l.length).filter (fun x => decide (x.parent = id)) = sortN (sibs T.length l id tier) := by
 have hst := sortN_stable (sibs T.length l id tier) _ (Nat.le_refl _);rw [List.take_length] at hst
 have hperm : ((ofK T l tier l.length).filter fun x => decide (x.parent = id)).Perm (sibs T.length l id tier) := by
  have h1 := (ofK_perm (T := T) (l := l) (tier := tier) l.length (Nat.le_refl _)).filter fun x => decide (x.parent = id)
  rw [List.take_length, List.filter_filter] at h1;refine h1.trans ?_;unfold sibs
  rw [show (fun n : Nt => decide (n.tier = tier /\ n.parent = id /\ 0 <= tier /\ tier < (T.length : Int))) = fun a : Nt => decide (a.parent = id) && decide (a.tier = tier) from funext fun n => by
   by_cases e1 : n.parent = id <;> by_cases e2 : n.tier = tier <;> simp [e1, e2, ht.1, ht.2]]
 have hmem : ∀ x, x ∈ sibs T.length l id tier -> x ∈ l /\ x.tier = tier /\ x.parent = id := fun x hx => by
  unfold sibs at hx;rw [List.mem_filter, decide_eq_true_eq] at hx;exact ⟨hx.1, hx.2.1, hx.2.2.1⟩
 refine List.Perm.eq_of_pairwise (le := fun a b => ordN a b <= 0) (fun a b ha hb h1 h2 => ?_) ?_ hst.sorted (hperm.trans hst.perm.symm)
 ·obtain ⟨a1, a2, a3⟩ := hmem a (hperm.mem_iff.1 ha);obtain ⟨b1, b2, b3⟩ := hmem b (hst.perm.mem_iff.1 hb);have h3 := ordN_is.anti a b;obtain ⟨e1, e2, e3⟩ := ordN_zero (a := a) (b := b) (by omega);refine hL.sib a a1 b b1 (by rw [a2, b2]) (by rw [a3, b3]) ?_;unfold keyT;rw [a2, b2, e2, e3]
 ·have h1 := (ofK_sorted (tier := tier) hL l.length (Nat.le_refl _)).filter fun x => decide (x.parent = id)
  refine List.Pairwise.imp_of_mem ?_ h1;intro a b ha hb h2;obtain ⟨a1, a2, a3⟩ := hmem a (hperm.mem_iff.1 ha);obtain ⟨b1, b2, b3⟩ := hmem b (hperm.mem_iff.1 hb);exact ordN_le hL a1 b1 (by rw [a2, b2]) (by rw [a3, b3]) h2
end
section
open Go.RowKit Ru Lay
attribute [local go_sem ↓] Go.wp_at_zero Go.wp_at_succ
def encT (t : Ti) : List Value := [.string t.name, .int .i64 t.kind, .int .i64 t.role, .int .i64 t.parent]
theorem encT_len (t : Ti) : (encT t).length = 4 := rfl
def TiersR (w : World) (B : Nat) (A : Option Addr) (n : Nat) (l : List Ti) : Prop := RecR encT 4 w B A n l /\ ∀ t ∈ l, t.name.size <= 9223372036854775807
theorem TiersR.len {w : World} {B n : Nat} {A : Option Addr} {l : List Ti} (hh : TiersR w B A n l) : l.length = n := hh.1.2
theorem TiersR.below {w w' : World} {B n : Nat} {A : Option Addr} {l : List Ti} (hh : TiersR w B A n l) (hb : Below B w w') : TiersR w' B A n l := ⟨RecR.below hh.1 hb, hh.2⟩
theorem TiersR.on {w w' : World} {n : Nat} {A : Option Addr} {l : List Ti} (hh : TiersR w w.heap.size A n l) (hb : Below w.heap.size w w') : TiersR w' w'.heap.size A n l := ⟨RecR.on hh.1 hb, hh.2⟩
theorem TiersR.at_ {w : World} {B n k : Nat} {A : Option Addr} {l : List Ti} (hh : TiersR w B A n l) (hk : k < n) :
  ∃ ad x, A = some ad /\ ad.block < B /\ l[k]? = some x /\ x.name.size <= 9223372036854775807 /\ ∀ W, Below B w W -> W.cell? (ad.add (k * 4)) = some (.string x.name) /\ W.cell? ⟨(ad.add (k * 4)).block, (ad.add (k * 4)).off + 1, none⟩ = some (.int .i64 x.kind) /\
   W.cell? ⟨(ad.add (k * 4)).block, (ad.add (k * 4)).off + 2, none⟩ = some (.int .i64 x.role) /\ W.cell? ⟨(ad.add (k * 4)).block, (ad.add (k * 4)).off + 3, none⟩ = some (.int .i64 x.parent) := by
 obtain ⟨ad, x, e, hb, hx, _, _⟩ := RecR.at_ encT_len (by omega) hh.1 hk;refine ⟨ad, x, e, hb, hx, hh.2 x (List.mem_of_getElem? hx), fun W hW => ?_⟩;obtain ⟨ad', x', e', _, hx', h0, hj⟩ := RecR.at_ encT_len (by omega) (RecR.below hh.1 hW) hk;rw [e] at e'
 cases e'
 rw [hx] at hx'
 cases hx'
 exact ⟨h0 _ rfl, hj 1 _ (by omega) rfl, hj 2 _ (by omega) rfl, hj 3 _ (by omega) rfl⟩
def kind11 (r : Int) : Int := if r = 1 then 0 else if r = 3 then 3 else if r = 4 then 4 else if r = 5 then 4 else -1
def TOk0 (t : Ti) (i : Nat) : Prop := (0 <= t.kind /\ t.kind <= 4) /\ ((t.kind = 0 /\ t.parent = -1) ∨ (t.kind ≠ 0 /\ 0 <= t.parent /\ t.parent < (i : Int)))
def TOk (t : Ti) (i : Nat) : Prop := TOk0 t i /\ (0 <= kind11 t.role -> t.kind = kind11 t.role)
def PlOk (T : List Ti) (l : List Nt) (x : Nt) : Prop :=
 (((tierT T x.tier).kind = 0 /\ x.parent = 0) ∨ ((tierT T x.tier).kind ≠ 0 /\ ∃ p, getN l x.parent = some p /\ p.tier = (tierT T x.tier).parent)) /\
 (timedK (tierT T x.tier).kind = true -> x.at1 < x.at2) /\ (timedK (tierT T x.tier).kind = false -> x.at1 = 0 /\ x.at2 = 0) /\ (x.rank = 0 ∨ (tierT T x.tier).kind = 3)
end
section
open Go Go.RowKit
variable {P : Program} {ops : Array Oper} {Q : Exit → Act → World → Prop}
def putAll : List Oper -> Nat -> (Nat -> Value) -> Act -> Act
 | [], _, _, a => a
 | o :: r, k, vals, a => putAll r (k + 1) vals (a.put o.dst (vals k))
def distB (ops : Array Oper) : Bool := (List.range ops.size).all fun i => (List.range ops.size).all fun j => i == j || ((ops[i]?.bind (·.dst)) != (ops[j]?.bind (·.dst)) || (ops[i]?.bind (·.dst)).isNone)
def dstB (ops : Array Oper) (n : Nat) : Bool := (List.range ops.size).all fun i => match ops[i]?.bind (·.dst) with
 | none => true
 | some t => decide (t < n)
theorem put_size (a : Act) (d : Option Tmp) (v : Value) : (a.put d v).tmps.size = a.tmps.size := by
 cases d <;> simp [Act.put]
theorem put_defers (a : Act) (d : Option Tmp) (v : Value) : (a.put d v).defers = a.defers := by
 cases d <;> rfl
theorem putAll_size (vals : Nat -> Value) : ∀ (l : List Oper) (k : Nat) (a : Act), (putAll l k vals a).tmps.size = a.tmps.size /\ (putAll l k vals a).defers = a.defers
 | [], _, _ => ⟨rfl, rfl⟩
 | o :: r, k, a => by
  obtain ⟨h1, h2⟩ := putAll_size vals r (k + 1) (a.put o.dst (vals k));exact ⟨h1.trans (put_size _ _ _), h2.trans (put_defers _ _ _)⟩
theorem putAll_at (vals : Nat -> Value) (x : Act) (t : Nat) (ht : t < x.tmps.size) : ∀ (l : List Oper) (k : Nat) (a : Act), a.tmps.size = x.tmps.size -> (∀ (i : Nat) (o : Oper), l[i]? = some o -> o.dst = some t -> vals (k + i) = x.tmps.getD t undef) ->
    ((∃ (i : Nat) (o : Oper), l[i]? = some o /\ o.dst = some t) ∨ a.tmps.getD t undef = x.tmps.getD t undef) -> (putAll l k vals a).tmps.getD t undef = x.tmps.getD t undef
  | [], _, a, _, _, h => by
    rcases h with ⟨i, o, h, _⟩ | h
    · simp at h
    · exact h
  | o :: r, k, a, hs, hv, h => by
    refine putAll_at vals x t ht r (k + 1) (a.put o.dst (vals k)) ((put_size _ _ _).trans hs) (fun i o' ho hd => ?_) ?_
    · have := hv (i + 1) o' (by rw [List.getElem?_cons_succ]; exact ho) hd
      rw [show k + 1 + i = k + (i + 1) by omega];exact this
    · by_cases e : o.dst = some t
      · right
        have := hv 0 o rfl e;rw [e];show (a.tmps.setIfInBounds t (vals k)).getD t undef = _;rw [Nat.add_zero] at this;rw [<- this];simp [Array.getD, hs, ht]
      · have hne : (a.put o.dst (vals k)).tmps.getD t undef = a.tmps.getD t undef := by
          cases hd : o.dst with
          | none => rfl
          | some d =>
            have hdt : d ≠ t := fun e2 => e (by rw [hd, e2])
            show (a.tmps.setIfInBounds d (vals k)).getD t undef = _;rw [Array.getD_eq_getD_getElem?, Array.getD_eq_getD_getElem?, Array.getElem?_setIfInBounds_ne hdt]
        rcases h with ⟨i, o', h1, h2⟩ | h
        · cases i with
          | zero =>
            simp at h1
            subst h1;exact absurd h2 e
          | succ i => exact .inl ⟨i, o', by rw [List.getElem?_cons_succ] at h1; exact h1, h2⟩
        · exact .inr (hne.trans h)
theorem act_ext {a b : Act} (hs : a.tmps.size = b.tmps.size) (hd : a.defers = b.defers) (h : ∀ t, t < b.tmps.size -> a.tmps.getD t undef = b.tmps.getD t undef) : a = b := by
 obtain ⟨x, d⟩ := a;obtain ⟨y, e⟩ := b
 have : x = y := by
  refine Array.ext hs fun i h1 h2 => ?_
  have := h i h2;simpa [Array.getD, h1, show i < y.size from h2] using this
 subst this;simp at hd
 rw [hd]
def slotV (o : Oper) (a : Act) : Value := match o.dst with
 | none => undef
 | some t => a.tmps.getD t undef
theorem dist_of (h : distB ops = true) : ∀ (i j : Nat) (oi oj : Oper) (s : Tmp), ops[i]? = some oi -> ops[j]? = some oj -> oi.dst = some s -> oj.dst = some s -> i = j := by
 intro i j oi oj s hi hj di dj;have h1 := List.all_eq_true.1 h i (List.mem_range.2 (Array.getElem?_eq_some_iff.1 hi).1);have h2 := List.all_eq_true.1 h1 j (List.mem_range.2 (Array.getElem?_eq_some_iff.1 hj).1);rw [hi, hj] at h2;simp [di, dj] at h2
 exact h2
theorem dst_of {n : Nat} (h : dstB ops n = true) : ∀ (i : Nat) (o : Oper) (t : Nat), ops[i]? = some o -> o.dst = some t -> t < n := by
 intro i o t hi hd;have h1 := List.all_eq_true.1 h i (List.mem_range.2 (Array.getElem?_eq_some_iff.1 hi).1);rw [hi] at h1;simpa [hd] using h1
structure EInv (ops : Array Oper) (a0 : Act) (C : World -> Prop) (V : Nat -> Value -> World -> Prop) (l : Array Bool) (a : Act) (w : World) : Prop where
 len : l.size = ops.size
 cls : C w
 size : a.tmps.size = a0.tmps.size
 defers : a.defers = a0.defers
 old : ∀ t, (∀ (i : Nat) (o : Oper), ops[i]? = some o -> o.dst ≠ some t) -> a.tmps.getD t undef = a0.tmps.getD t undef
 new : ∀ (i : Nat) (o : Oper), ops[i]? = some o -> l.getD i false = true -> V i (slotV o a) w
theorem einv_step {a0 a : Act} {C : World -> Prop} {V : Nat -> Value -> World -> Prop} {l : Array Bool} {w w' : World} {i : Nat} {o : Oper} {v : Value} (hdist : distB ops = true) (hdst : dstB ops a0.tmps.size = true)
  (h : EInv ops a0 C V l a w) (ho : ops[i]? = some o) (hC : C w') (hv : V i (match o.dst with | none => undef | some _ => v) w') (hk : ∀ j u, j ≠ i -> V j u w -> V j u w') : EInv ops a0 C V (l.setIfInBounds i true) (a.put o.dst v) w' := by
 have hi : i < l.size := by rw [h.len]; exact (Array.getElem?_eq_some_iff.1 ho).1
 refine ⟨by simpa using h.len, hC, (put_size _ _ _).trans h.size, (put_defers _ _ _).trans h.defers, fun s hs => ?_, fun j oj hj hl => ?_⟩
 ·rw [<- h.old s hs]
  cases hd : o.dst with
  | none => rfl
  | some t =>
   have hne : t ≠ s := fun e => hs i o ho (by rw [hd, e])
   show (a.tmps.setIfInBounds t v).getD s undef = _;rw [Array.getD_eq_getD_getElem?, Array.getD_eq_getD_getElem?, Array.getElem?_setIfInBounds_ne hne]
 ·by_cases e : i = j
  ·subst e;rw [ho] at hj
   cases hj
   have : slotV o (a.put o.dst v) = match o.dst with | none => undef | some _ => v := by
    unfold slotV
    cases hd : o.dst with
    | none => rfl
    | some t =>
     have ht : t < a.tmps.size := by rw [h.size]; exact dst_of hdst i o t ho hd
     show (a.tmps.setIfInBounds t v).getD t undef = v;simp [Array.getD, ht]
   rw [this];exact hv
  ·rw [getD_set_ne e] at hl
   have : slotV oj (a.put o.dst v) = slotV oj a := by
    unfold slotV
    cases hd : o.dst with
    | none => rfl
    | some t =>
     cases hdj : oj.dst with
     | none => rfl
     | some s =>
      have hne : t ≠ s := fun e2 => e (dist_of hdist i j o oj t ho hj hd (by rw [hdj, e2]))
      show (a.tmps.setIfInBounds t v).getD s undef = a.tmps.getD s undef;rw [Array.getD_eq_getD_getElem?, Array.getD_eq_getD_getElem?, Array.getElem?_setIfInBounds_ne hne]
   rw [this];exact hk j _ (Ne.symm e) (h.new j oj hj hl)
def valsOf (ops : Array Oper) (a : Act) (i : Nat) : Value := match ops[i]? with
 | none => undef
 | some o => slotV o a
theorem putAll_of {a0 a : Act} (hs : a.tmps.size = a0.tmps.size) (hd : a.defers = a0.defers) (hold : ∀ t, (∀ (i : Nat) (o : Oper), ops[i]? = some o -> o.dst ≠ some t) -> a.tmps.getD t undef = a0.tmps.getD t undef) :
  putAll ops.toList 0 (valsOf ops a) a0 = a := by
 obtain ⟨h1, h2⟩ := putAll_size (valsOf ops a) ops.toList 0 a0;refine act_ext (h1.trans hs.symm) (h2.trans hd.symm) fun t ht => ?_
 refine putAll_at _ a t ht ops.toList 0 a0 hs.symm (fun i o ho hdst => ?_) ?_
 ·rw [Array.getElem?_toList] at ho;rw [Nat.zero_add];unfold valsOf;rw [ho];show slotV o a = _;unfold slotV;rw [hdst]
 ·by_cases e : ∃ (i : Nat) (o : Oper), ops.toList[i]? = some o /\ o.dst = some t
  ·exact .inl e
  ·exact .inr (hold t fun i o ho hdst => e ⟨i, o, by rw [Array.getElem?_toList]; exact ho, hdst⟩).symm
theorem wp_region_gen {id : Nat} {a0 : Act} {w0 : World} (hm : P.follows .mixedOrders = true) (C : World -> Prop) (V : Nat -> Value -> World -> Prop) (hb : (backB ops && (distB ops && dstB ops a0.tmps.size)) = true) (h0 : C w0.drew)
  (hstep : ∀ (i : Nat) (o : Oper) (w : World) (vals : Nat -> Value), ops[i]? = some o -> C w -> (∀ j, (o.after.any fun e => Region.binds .any e && e.on == j) = true -> V j (vals j) w) ->
   wpOp P ops Q i (fun a' w' => ∃ v, a' = (putAll ops.toList 0 vals a0).put o.dst v /\ V i (match o.dst with | none => undef | some _ => v) w' /\ C w' /\ ∀ j u, j ≠ i -> V j u w -> V j u w') (putAll ops.toList 0 vals a0) w)
  (hQ : ∀ (w : World) (vals : Nat -> Value), C w -> (∀ j, j < ops.size -> V j (vals j) w) -> Q .normal (putAll ops.toList 0 vals a0) w) : (Code.region id ops true).wp P Q a0 w0 := by
 rw [Bool.and_eq_true, Bool.and_eq_true] at hb;obtain ⟨hb1, hb2, hb3⟩ := hb
 have hrep : ∀ i, (Array.replicate ops.size false).getD i false = false := fun i => by
  simp only [Array.getD];split <;> simp
 have hval : ∀ (l : Array Bool) (a : Act) (w : World), EInv ops a0 C V l a w -> ∀ j, j < ops.size -> l.getD j false = true -> V j (valsOf ops a j) w := by
  intro l a w h j hj hl;have := h.new j ops[j] (Array.getElem?_eq_getElem hj) hl;unfold valsOf;rw [Array.getElem?_eq_getElem hj];exact this
 refine wp_region_inv hm (EInv ops a0 C V) ⟨by simp, h0, rfl, rfl, fun _ _ => rfl, fun i o _ hl => by rw [hrep] at hl; cases hl⟩ (fun l a w h hr => ?_) ?_
 ·have hall := all_listed hb1 h.len hr;have := hQ w (valsOf ops a) h.cls (fun j hj => hval l a w h j hj (hall j hj));rw [putAll_of h.size h.defers h.old] at this;exact this
 ·intro l a w i h hi;obtain ⟨hun, o, ho, hr⟩ := mem_ready.1 hi;have hs := hstep i o w (valsOf ops a) ho h.cls (fun j hj => ?_)
  ·rw [putAll_of h.size h.defers h.old] at hs;refine wpOp_mono ?_ hs;rintro a' w' ⟨v, rfl, h1, h2, h3⟩;exact einv_step hb2 hb3 h ho h2 h1 h3
  ·obtain ⟨e, he, h2⟩ := Array.any_eq_true'.1 hj;rw [Bool.and_eq_true, beq_iff_eq] at h2;have h3 := hr e he h2.1
   have hj2 : e.on < ops.size := by
    have h4 := List.all_eq_true.1 hb1 i (List.mem_range.2 (Array.getElem?_eq_some_iff.1 ho).1);rw [ho] at h4;have h5 := of_decide_eq_true (Array.all_eq_true'.1 h4 e he);have := (Array.getElem?_eq_some_iff.1 ho).1;omega
   have := hval l a w h e.on hj2 h3;rw [<- h2.2];exact this
theorem wp_region_each {id : Nat} {a0 : Act} {w0 : World} (hm : P.follows .mixedOrders = true) (V : Nat -> Value -> World -> Prop) (hb : (backB ops && (distB ops && dstB ops a0.tmps.size)) = true)
  (hV : ∀ i v w w', V i v w -> Below w.heap.size w w' -> V i v w')
  (hstep : ∀ (i : Nat) (o : Oper) (w : World) (vals : Nat -> Value), ops[i]? = some o -> Below w0.heap.size w0 w -> (∀ j, (o.after.any fun e => Region.binds .any e && e.on == j) = true -> V j (vals j) w) ->
   wpOp P ops Q i (fun a' w' => ∃ v, a' = (putAll ops.toList 0 vals a0).put o.dst v /\ V i (match o.dst with | none => undef | some _ => v) w' /\ Below w.heap.size w w') (putAll ops.toList 0 vals a0) w)
  (hQ : ∀ (w : World) (vals : Nat -> Value), Below w0.heap.size w0 w -> (∀ j, j < ops.size -> V j (vals j) w) -> Q .normal (putAll ops.toList 0 vals a0) w) : (Code.region id ops true).wp P Q a0 w0 :=
 wp_region_gen hm (fun w => Below w0.heap.size w0 w) V hb bR.drew (fun i o w vals ho hC hd => wpOp_mono (fun a' w' ⟨v, e, h1, h2⟩ => ⟨v, e, h1, hC.trans (h2.mono hC.size), fun j u _ hu => hV j u w w' hu h2⟩) (hstep i o w vals ho hC hd)) hQ
inductive Told where
 | is (v : Value)
 | such (p : Value -> World -> Prop) (h : ∀ v w w', p v w -> Below w.heap.size w w' -> p v w')
def Told.holds : Told -> Value -> World -> Prop
 | .is v, u, _ => u = v
 | .such p _, u, w => p u w
def toldAt (Vs : List Told) (i : Nat) : Value -> World -> Prop := match Vs[i]? with
 | none => fun _ _ => True
 | some t => t.holds
theorem toldAt_kept (Vs : List Told) (i : Nat) (v : Value) (w w' : World) (h : toldAt Vs i v w) (hb : Below w.heap.size w w') : toldAt Vs i v w' := by
 unfold toldAt at *
 cases hi : Vs[i]? with
 | none => trivial
 | some t =>
  rw [hi] at h
  cases t with
  | is x => exact h
  | such p hp => exact hp _ _ _ h hb
def gwp (P : Program) (Q : Exit -> Act -> World -> Prop) (o : Oper) (vals : Nat -> Value) (a : Act) (w : World) (K : Act -> World -> Prop) : Prop := match o.guard with
 | none => o.wp P a w K Q
 | some (j, want) => (vals j = .bool want /\ o.wp P a w K Q) ∨ (vals j = .bool (!want) /\ K (a.put o.dst undef) w)
theorem gwp_none {o : Oper} {vals : Nat -> Value} {a : Act} {w : World} {K : Act -> World -> Prop} (hg : o.guard = none) (h : o.wp P a w K Q) : gwp P Q o vals a w K := by
 unfold gwp;rw [hg];exact h
theorem gwp_some {o : Oper} {vals : Nat -> Value} {a : Act} {w : World} {K : Act -> World -> Prop} {j : Nat} {want : Bool} (hg : o.guard = some (j, want)) (hv : vals j = .bool want) (h : o.wp P a w K Q) : gwp P Q o vals a w K := by
 unfold gwp;rw [hg];exact .inl ⟨hv, h⟩
theorem gwp_skip {o : Oper} {vals : Nat -> Value} {a : Act} {w : World} {K : Act -> World -> Prop} {j : Nat} {want : Bool} (hg : o.guard = some (j, want)) (hv : vals j = .bool (!want)) (h : K (a.put o.dst undef) w) : gwp P Q o vals a w K := by
 unfold gwp;rw [hg];exact .inr ⟨hv, h⟩
def StepsAt (P : Program) (Q : Exit -> Act -> World -> Prop) (all : List Oper) (a0 : Act) (w0 : World) (Vs : List Told) : Nat -> List Oper -> Prop
  | _, [] => True
  | i, o :: r => (∀ (w : World) (vals : Nat -> Value), Below w0.heap.size w0 w -> (∀ j, (o.after.toList.any fun e => Region.binds .any e && e.on == j) = true -> toldAt Vs j (vals j) w) ->
      ∀ K : Act -> World -> Prop, (∀ v w', toldAt Vs i (match o.dst with | none => undef | some _ => v) w' -> Below w.heap.size w w' -> K ((putAll all 0 vals a0).put o.dst v) w') -> gwp P Q o vals (putAll all 0 vals a0) w K) /\ StepsAt P Q all a0 w0 Vs (i + 1) r
theorem stepsAt_get {all : List Oper} {a0 : Act} {w0 : World} {Vs : List Told} : ∀ {l : List Oper} {k i : Nat} {o : Oper}, StepsAt P Q all a0 w0 Vs k l -> l[i]? = some o ->
  ∀ (w : World) (vals : Nat -> Value), Below w0.heap.size w0 w -> (∀ j, (o.after.toList.any fun e => Region.binds .any e && e.on == j) = true -> toldAt Vs j (vals j) w) ->
   ∀ K : Act -> World -> Prop, (∀ v w', toldAt Vs (k + i) (match o.dst with | none => undef | some _ => v) w' -> Below w.heap.size w w' -> K ((putAll all 0 vals a0).put o.dst v) w') -> gwp P Q o vals (putAll all 0 vals a0) w K
 | [], _, _, _, _, h => by simp at h
 | x :: r, k, 0, o, hs, h => by
  simp at h
  subst h;exact hs.1
 | x :: r, k, i + 1, o, hs, h => by
  rw [List.getElem?_cons_succ] at h;have := stepsAt_get hs.2 h;rw [show k + (i + 1) = k + 1 + i by omega];exact this
theorem putAll_other (vals : Nat -> Value) (t : Nat) : ∀ (l : List Oper) (k : Nat) (a : Act), (∀ (i : Nat) (o : Oper), l[i]? = some o -> o.dst ≠ some t) -> (putAll l k vals a).tmps[t]? = a.tmps[t]?
 | [], _, _, _ => rfl
 | o :: r, k, a, h => by
  refine (putAll_other vals t r (k + 1) (a.put o.dst (vals k)) fun i o' ho => h (i + 1) o' (by rw [List.getElem?_cons_succ]; exact ho)).trans ?_
  cases hd : o.dst with
  | none => rfl
  | some d =>
   have hne : d ≠ t := fun e => h 0 o rfl (by rw [hd, e])
   show (a.tmps.setIfInBounds d (vals k))[t]? = _;rw [Array.getElem?_setIfInBounds_ne hne]
theorem putAll_slot (vals : Nat -> Value) (t : Nat) : ∀ (l : List Oper) (k i : Nat) (o : Oper) (a : Act), l[i]? = some o -> o.dst = some t -> t < a.tmps.size -> (∀ (j : Nat) (o' : Oper), i < j -> l[j]? = some o' -> o'.dst ≠ some t) -> (putAll l k vals a).tmps[t]? = some (vals (k + i))
 | [], _, _, _, _, h, _, _, _ => by simp at h
 | x :: r, k, 0, o, a, h, hd, ht, hn => by
  simp at h
  subst h;refine (putAll_other vals t r (k + 1) (a.put x.dst (vals k)) fun i o' ho => hn (i + 1) o' (by omega) (by rw [List.getElem?_cons_succ]; exact ho)).trans ?_;rw [hd];show (a.tmps.setIfInBounds t (vals k))[t]? = _;simp [ht]
 | x :: r, k, i + 1, o, a, h, hd, ht, hn => by
  rw [List.getElem?_cons_succ] at h;rw [show k + (i + 1) = k + 1 + i by omega];exact putAll_slot vals t r (k + 1) i o (a.put x.dst (vals k)) h hd (by rw [put_size]; exact ht) fun j o' hj ho => hn (j + 1) o' (by omega) (by rw [List.getElem?_cons_succ]; exact ho)
def guardB (l : List Oper) : Bool := l.all fun o => match o.guard with
 | none => true
 | some (j, _) => match l[j]? with
  | none => false
  | some oj => oj.dst.isSome
theorem yielded_put {l : List Oper} {a0 : Act} {vals : Nat -> Value} {j : Nat} {oj : Oper} (h1 : distB l.toArray = true) (h2 : dstB l.toArray a0.tmps.size = true) (hj : l[j]? = some oj) (hd : oj.dst.isSome = true) {b : Bool} (hv : vals j = .bool b) :
  yielded l.toArray (putAll l 0 vals a0).tmps j = some b := by
 cases hdj : oj.dst with
 | none => rw [hdj] at hd; cases hd
 | some t =>
  have hja : l.toArray[j]? = some oj := by simpa using hj
  have ht := dst_of h2 j oj t hja hdj
  have := putAll_slot vals t l 0 j oj a0 hj hdj ht fun i o' hij ho e => by
   have hi : l.toArray[i]? = some o' := by simpa using ho
   have := dist_of h1 j i oj o' t hja hi hdj e;omega
  unfold yielded;rw [hja];simp only [Option.bind_some, hdj, this, Nat.zero_add, hv]
theorem wpOp_of_gwp {l : List Oper} {a0 : Act} {vals : Nat -> Value} {i : Nat} {o : Oper} {w : World} {K : Act -> World -> Prop} (h1 : distB l.toArray = true) (h2 : dstB l.toArray a0.tmps.size = true) (hol : l[i]? = some o) (hgb : guardB l = true)
  (hs : gwp P Q o vals (putAll l 0 vals a0) w K) : wpOp P l.toArray Q i K (putAll l 0 vals a0) w := by
 have hg := List.all_eq_true.1 hgb o (List.mem_of_getElem? hol);have ho : l.toArray[i]? = some o := by simpa using hol
 unfold wpOp;rw [ho];unfold gwp at hs;obtain ⟨dst, op, ty, pos, after, guard⟩ := o;simp only [Region.wanted]
 cases guard with
 | none => exact .inl hs
 | some g =>
  obtain ⟨j, want⟩ := g;simp only at hs hg
  cases hj : l[j]? with
  | none => rw [hj] at hg; cases hg
  | some oj =>
   rw [hj] at hg;rcases hs with ⟨hv, hs⟩ | ⟨hv, hs⟩
   ·have := yielded_put h1 h2 hj hg hv;simp only [this, beq_self_eq_true, if_true];exact .inl hs
   ·have := yielded_put h1 h2 hj hg hv;have hne : (some (!want) == some want) = false := by cases want <;> rfl
    simp only [this, hne, Bool.false_eq_true, if_false];exact hs
theorem wp_region_told {id : Nat} {a0 : Act} {w0 : World} {l : List Oper} (Vs : List Told) (hm : P.follows .mixedOrders = true) (hb : ((backB l.toArray && (distB l.toArray && dstB l.toArray a0.tmps.size)) && guardB l) = true)
  (hstep : StepsAt P Q l a0 w0 Vs 0 l)
  (hQ : ∀ (w : World) (vals : Nat -> Value), Below w0.heap.size w0 w -> (∀ j, j < l.length -> toldAt Vs j (vals j) w) -> Q .normal (putAll l 0 vals a0) w) : (Code.region id l.toArray true).wp P Q a0 w0 := by
 rw [Bool.and_eq_true] at hb;have hb' := hb.1;rw [Bool.and_eq_true, Bool.and_eq_true] at hb';refine wp_region_each (ops := l.toArray) hm (toldAt Vs) hb.1 (toldAt_kept Vs) (fun i o w vals ho hC hd => ?_) (fun w vals hC h => hQ w vals hC fun j hj => h j (by simpa using hj));have hol : l[i]? = some o := by simpa using ho
 refine wpOp_of_gwp hb'.2.1 hb'.2.2 hol hb.2 ?_;exact stepsAt_get hstep hol w vals hC (fun j hj => hd j (by rw [<- Array.any_toList]; exact hj)) _ fun v w' h1 h2 => ⟨v, rfl, by rw [Nat.zero_add] at h1; exact h1, h2⟩
theorem told_at {Vs : List Told} {i : Nat} {v : Value} {w : World} {t : Told} (h : toldAt Vs i v w) (ht : Vs[i]? = some t) : t.holds v w := by
 unfold toldAt at h;rw [ht] at h;exact h
theorem tI {Vs : List Told} {i : Nat} {u v : Value} {w : World} (h : toldAt Vs i u w) (e : Vs[i]? = some (.is v)) : u = v := told_at h e
end
section
open Go.RowKit Ru Lay
attribute [local go_sem ↓] Go.wp_at_zero Go.wp_at_succ
set_option maxHeartbeats 4000000 in
set_option maxRecDepth 100000 in
theorem ordN_any (a b : Nt) (w : World) : Calls Tryz.prog 91 #[noteV a, noteV b] w fun e w' => e = .returned (.int .i64 (ordN a b)) /\ Below w.heap.size w w' := by
 unfold noteV;go_enter Tryz.func91, Tryz.ntmps91
 go_wp2_with fail
 have HBW : Hid (Below w.heap.size w ((w.alloc (.cells #[.int .i64 a.nid, .int .i64 a.tier, .int .i64 a.parent, .int .i64 a.at1, .int .i64 a.at2, .int .i64 a.rank, .string a.text] 58)).alloc (.cells #[.int .i64 b.nid, .int .i64 b.tier, .int .i64 b.parent, .int .i64 b.at1, .int .i64 b.at2, .int .i64 b.rank, .string b.text] 58))) := ((Below.refl _ w).alloc (Nat.le_refl _) _).alloc (by simp) _;obtain ⟨W0, hW0⟩ : ∃ W0, ((w.alloc (.cells #[.int .i64 a.nid, .int .i64 a.tier, .int .i64 a.parent, .int .i64 a.at1, .int .i64 a.at2, .int .i64 a.rank, .string a.text] 58)).alloc (.cells #[.int .i64 b.nid, .int .i64 b.tier, .int .i64 b.parent, .int .i64 b.at1, .int .i64 b.at2, .int .i64 b.rank, .string b.text] 58)) = W0 := ⟨_, rfl⟩;have hz0 : W0.heap.size = w.heap.size + 1 + 1 := by rw [<- hW0]; simp
 have Haparent : Hid (∀ W, Below W0.heap.size W0 W -> W.cell? ⟨w.heap.size, 2, none⟩ = some (.int .i64 a.parent)) := fun W hW => by
  rw [hW.cell (p := ⟨w.heap.size, 2, none⟩) (by show w.heap.size < _; omega)];rw [<- hW0, World.cell?_alloc_lt _ _ _ (by simp), World.cell?_alloc_at _ _ _ _ rfl]; rfl
 have Haat1 : Hid (∀ W, Below W0.heap.size W0 W -> W.cell? ⟨w.heap.size, 3, none⟩ = some (.int .i64 a.at1)) := fun W hW => by
  rw [hW.cell (p := ⟨w.heap.size, 3, none⟩) (by show w.heap.size < _; omega)];rw [<- hW0, World.cell?_alloc_lt _ _ _ (by simp), World.cell?_alloc_at _ _ _ _ rfl]; rfl
 have Harank : Hid (∀ W, Below W0.heap.size W0 W -> W.cell? ⟨w.heap.size, 5, none⟩ = some (.int .i64 a.rank)) := fun W hW => by
  rw [hW.cell (p := ⟨w.heap.size, 5, none⟩) (by show w.heap.size < _; omega)];rw [<- hW0, World.cell?_alloc_lt _ _ _ (by simp), World.cell?_alloc_at _ _ _ _ rfl]; rfl
 have Hbparent : Hid (∀ W, Below W0.heap.size W0 W -> W.cell? ⟨w.heap.size + 1, 2, none⟩ = some (.int .i64 b.parent)) := fun W hW => by
  rw [hW.cell (p := ⟨w.heap.size + 1, 2, none⟩) (by show w.heap.size + 1 < _; omega)];rw [<- hW0, World.cell?_alloc_at _ _ _ _ (by simp)]; rfl
 have Hbat1 : Hid (∀ W, Below W0.heap.size W0 W -> W.cell? ⟨w.heap.size + 1, 3, none⟩ = some (.int .i64 b.at1)) := fun W hW => by
  rw [hW.cell (p := ⟨w.heap.size + 1, 3, none⟩) (by show w.heap.size + 1 < _; omega)];rw [<- hW0, World.cell?_alloc_at _ _ _ _ (by simp)]; rfl
 have Hbrank : Hid (∀ W, Below W0.heap.size W0 W -> W.cell? ⟨w.heap.size + 1, 5, none⟩ = some (.int .i64 b.rank)) := fun W hW => by
  rw [hW.cell (p := ⟨w.heap.size + 1, 5, none⟩) (by show w.heap.size + 1 < _; omega)];rw [<- hW0, World.cell?_alloc_at _ _ _ _ (by simp)]; rfl
 rw [hW0] at HBW |-;clear hW0;refine wp_region_told [Told.is (.pointer (some ⟨w.heap.size, 2, none⟩)), Told.is (.int .i64 a.parent), Told.is (.pointer (some ⟨w.heap.size + 1, 2, none⟩)), Told.is (.int .i64 b.parent), Told.is (.int .i64 (Lib.compareInt a.parent b.parent)), Told.is (.pointer (some ⟨w.heap.size, 3, none⟩)), Told.is (.pointer (some ⟨w.heap.size, 3, none⟩)), Told.is (.int .i64 a.at1), Told.is (.pointer (some ⟨w.heap.size + 1, 3, none⟩)), Told.is (.pointer (some ⟨w.heap.size + 1, 3, none⟩)), Told.is (.int .i64 b.at1), Told.is (.int .i64 (Lib.compareInt a.at1 b.at1)), Told.is (.pointer (some ⟨w.heap.size, 5, none⟩)), Told.is (.int .i64 a.rank), Told.is (.pointer (some ⟨w.heap.size + 1, 5, none⟩)), Told.is (.int .i64 b.rank), Told.is (.int .i64 (Lib.compareInt a.rank b.rank)), Told.such (fun v w => ∃ A c, v = .slice A 3 c /\ IR w w.heap.size A 3 [Lib.compareInt a.parent b.parent, Lib.compareInt a.at1 b.at1, Lib.compareInt a.rank b.rank]) (fun v w w' ⟨A, c, h1, h2⟩ hb => ⟨A, c, h1, IR.on h2 hb⟩), Told.is (.int .i64 (ordN a b)), Told.is (.int .i64 (ordN a b))] (by kernel_rfl) (by kernel_rfl) ?_ ?_
 ·refine And.intro (fun w1 vals hB hd K hK => ?_) ?_
  ·clear hd;simp only [putAll, Act.put, pS] at hK |-;refine gwp_none rfl ?_;go_simp;exact hK _ _ rfl bR
  refine And.intro (fun w1 vals hB hd K hK => ?_) ?_
  ·have e0 := tI (hd 0 rfl) rfl;clear hd;simp only [putAll, Act.put, pS] at hK |-;simp only [e0] at hK |-;clear e0;refine gwp_none rfl ?_;have hc := Haparent.out w1 hB;go_simp;exact hK _ _ rfl bR
  refine And.intro (fun w1 vals hB hd K hK => ?_) ?_
  ·clear hd;simp only [putAll, Act.put, pS] at hK |-;refine gwp_none rfl ?_;go_simp;exact hK _ _ rfl bR
  refine And.intro (fun w1 vals hB hd K hK => ?_) ?_
  ·have e2 := tI (hd 2 rfl) rfl;clear hd;simp only [putAll, Act.put, pS] at hK |-;simp only [e2] at hK |-;clear e2;refine gwp_none rfl ?_;have hc := Hbparent.out w1 hB;go_simp;exact hK _ _ rfl bR
  refine And.intro (fun w1 vals hB hd K hK => ?_) ?_
  ·have e1 := tI (hd 1 rfl) rfl;have e3 := tI (hd 3 rfl) rfl;clear hd;simp only [putAll, Act.put, pS] at hK |-;simp only [e1, e3] at hK |-;clear e1 e3;refine gwp_none rfl ?_;go_simp;refine (Tryz.cmp_Compare_int a.parent b.parent w1).mono ?_;rintro e w2 ⟨rfl, rfl⟩;exact hK _ _ rfl bR
  refine And.intro (fun w1 vals hB hd K hK => ?_) ?_
  ·clear hd;simp only [putAll, Act.put, pS] at hK |-;refine gwp_none rfl ?_;go_simp;exact hK _ _ rfl bR
  refine And.intro (fun w1 vals hB hd K hK => ?_) ?_
  ·have e5 := tI (hd 5 rfl) rfl;clear hd;simp only [putAll, Act.put, pS] at hK |-;simp only [e5] at hK |-;clear e5;refine gwp_none rfl ?_;go_simp;exact hK _ _ rfl bR
  refine And.intro (fun w1 vals hB hd K hK => ?_) ?_
  ·have e6 := tI (hd 6 rfl) rfl;clear hd;simp only [putAll, Act.put, pS] at hK |-;simp only [e6] at hK |-;clear e6;refine gwp_none rfl ?_;have hc := Haat1.out w1 hB;go_simp;exact hK _ _ rfl bR
  refine And.intro (fun w1 vals hB hd K hK => ?_) ?_
  ·clear hd;simp only [putAll, Act.put, pS] at hK |-;refine gwp_none rfl ?_;go_simp;exact hK _ _ rfl bR
  refine And.intro (fun w1 vals hB hd K hK => ?_) ?_
  ·have e8 := tI (hd 8 rfl) rfl;clear hd;simp only [putAll, Act.put, pS] at hK |-;simp only [e8] at hK |-;clear e8;refine gwp_none rfl ?_;go_simp;exact hK _ _ rfl bR
  refine And.intro (fun w1 vals hB hd K hK => ?_) ?_
  ·have e9 := tI (hd 9 rfl) rfl;clear hd;simp only [putAll, Act.put, pS] at hK |-;simp only [e9] at hK |-;clear e9;refine gwp_none rfl ?_;have hc := Hbat1.out w1 hB;go_simp;exact hK _ _ rfl bR
  refine And.intro (fun w1 vals hB hd K hK => ?_) ?_
  ·have e7 := tI (hd 7 rfl) rfl;have e10 := tI (hd 10 rfl) rfl;clear hd;simp only [putAll, Act.put, pS] at hK |-;simp only [e7, e10] at hK |-;clear e7 e10;refine gwp_none rfl ?_;go_simp;refine (Tryz.cmp_Compare_int a.at1 b.at1 w1).mono ?_;rintro e w2 ⟨rfl, rfl⟩;exact hK _ _ rfl bR
  refine And.intro (fun w1 vals hB hd K hK => ?_) ?_
  ·clear hd;simp only [putAll, Act.put, pS] at hK |-;refine gwp_none rfl ?_;go_simp;exact hK _ _ rfl bR
  refine And.intro (fun w1 vals hB hd K hK => ?_) ?_
  ·have e12 := tI (hd 12 rfl) rfl;clear hd;simp only [putAll, Act.put, pS] at hK |-;simp only [e12] at hK |-;clear e12;refine gwp_none rfl ?_;have hc := Harank.out w1 hB;go_simp;exact hK _ _ rfl bR
  refine And.intro (fun w1 vals hB hd K hK => ?_) ?_
  ·clear hd;simp only [putAll, Act.put, pS] at hK |-;refine gwp_none rfl ?_;go_simp;exact hK _ _ rfl bR
  refine And.intro (fun w1 vals hB hd K hK => ?_) ?_
  ·have e14 := tI (hd 14 rfl) rfl;clear hd;simp only [putAll, Act.put, pS] at hK |-;simp only [e14] at hK |-;clear e14;refine gwp_none rfl ?_;have hc := Hbrank.out w1 hB;go_simp;exact hK _ _ rfl bR
  refine And.intro (fun w1 vals hB hd K hK => ?_) ?_
  ·have e13 := tI (hd 13 rfl) rfl;have e15 := tI (hd 15 rfl) rfl;clear hd;simp only [putAll, Act.put, pS] at hK |-;simp only [e13, e15] at hK |-;clear e13 e15;refine gwp_none rfl ?_;go_simp;refine (Tryz.cmp_Compare_int a.rank b.rank w1).mono ?_;rintro e w2 ⟨rfl, rfl⟩;exact hK _ _ rfl bR
  refine And.intro (fun w1 vals hB hd K hK => ?_) ?_
  ·have e4 := tI (hd 4 rfl) rfl;have e11 := tI (hd 11 rfl) rfl;have e16 := tI (hd 16 rfl) rfl;clear hd;simp only [putAll, Act.put, pS] at hK |-;simp only [e4, e11, e16] at hK |-;clear e4 e11 e16;refine gwp_none rfl ?_;go_simp;exact hK _ _ ⟨_, _, rfl, ir_new w1 3 [Lib.compareInt a.parent b.parent, Lib.compareInt a.at1 b.at1, Lib.compareInt a.rank b.rank] _ rfl _ rfl⟩ (below_new _ _)
  refine And.intro (fun w1 vals hB hd K hK => ?_) ?_
  ·have p17 := told_at (hd 17 rfl) rfl;simp only [Told.holds] at p17;clear hd;obtain ⟨x17, hx17⟩ : ∃ x, vals 17 = x := ⟨_, rfl⟩;rw [hx17] at p17;simp only [putAll, Act.put, pS] at hK |-;simp only [hx17] at hK |-;clear hx17;refine gwp_none rfl ?_;obtain ⟨A, c, rfl, hir⟩ := p17;go_simp;refine (cmpOr_any A 3 c [Lib.compareInt a.parent b.parent, Lib.compareInt a.at1 b.at1, Lib.compareInt a.rank b.rank] w1 hir (by omega)).mono ?_;rintro e w2 ⟨rfl, rfl⟩;exact hK _ _ rfl bR
  refine And.intro (fun w1 vals hB hd K hK => ?_) ?_
  ·have e18 := tI (hd 18 rfl) rfl;clear hd;simp only [putAll, Act.put, pS] at hK |-;simp only [e18] at hK |-;clear e18;refine gwp_none rfl ?_;go_simp;exact hK _ _ rfl bR
  exact trivial
 ·intro w1 vals hB hd;have e19 := tI (hd 19 (by decide)) rfl;clear hd;simp only [putAll, Act.put, pS];simp only [e19];clear e19;go_wp2;go_ret;exact ⟨rfl, HBW.out.trans (hB.mono HBW.out.size)⟩
end
end Go.Proofs.YthcabnfcgjnlnaaGreatDoor
