import Derived.Test.YthcabnfcgjnlnaaGreatDoorK05
import Derived.Lib.MinMax
import Derived.Deep.RegionWith
import Derived.Deep.DrawnRows
import Derived.Deep.LoopGhost
/-
  PLAIN LAW of the chapter on layout: widths, pads, columns, groups and lines. No program in sight.
-/
set_option linter.unusedVariables false
set_option linter.unusedSimpArgs false
namespace Go.Proofs.YthcabnfcgjnlnaaGreatDoor.Lay
open Go.Proofs.YthcabnfcgjnlnaaGreatDoor Go.Proofs.YthcabnfcgjnlnaaGreatDoor.Ru

/-- The width of a string. -/
def wid (s : List UInt8) : Nat :=
  match points s with
  | none => s.length
  | some d => (clus d).length
def widB (s : ByteArray) : Nat := wid s.data.toList
/-- Blanks. -/
def sp (n : Nat) : List UInt8 := List.replicate n 32
def pad (s : List UInt8) (n : Int) : List UInt8 := if (wid s : Int) < n ∧ n ≤ 4000 then s ++ sp (n - wid s).toNat else s
def cellB (r : List ByteArray) (k : Nat) : ByteArray := r.getD k ⟨#[]⟩
/-- The number of columns. -/
def nmax : List (List ByteArray) → Nat
  | [] => 0
  | r :: t => max r.length (nmax t)
/-- The width of a column. -/
def colAt : List (List ByteArray) → Nat → Nat
  | [], _ => 0
  | r :: t, k => max (widB (cellB r k)) (colAt t k)
def cols (L : List (List ByteArray)) : List Int := (List.range (nmax L)).map fun k => (colAt L k : Int)
/-- What has been collected when the rows L and j cells of the row r are over, n columns being there. -/
def colsG (n : Nat) (L : List (List ByteArray)) (r : List ByteArray) (j : Nat) : List Int :=
  (List.range n).map fun k => if k < j then max (colAt L k : Int) (widB (cellB r k) : Int) else (colAt L k : Int)
/-- The groups of the first i columns, and the width of the last one. -/
def gst (c : List Int) (W : Int) : Nat → List (Nat × Nat) × Int
  | 0 => ([], 0)
  | i + 1 =>
    if 0 < i ∧ (gst c W i).2 ≤ W ∧ max (c.getD i 0) 0 ≤ W - (gst c W i).2 - 1 then
      ((gst c W i).1.dropLast ++ [(((gst c W i).1.getLast?.getD (0, 0)).1, i + 1)], (gst c W i).2 + 1 + max (c.getD i 0) 0)
    else ((gst c W i).1 ++ [(i, i + 1)], max (c.getD i 0) 0)
def groups (c : List Int) (W : Int) : List (Nat × Nat) := (gst c W c.length).1
/-- The first k cells of a line. -/
def lineG (c : List Int) (r : List ByteArray) : Nat → List UInt8
  | 0 => []
  | k + 1 => lineG c r k ++ (if 0 < k then [32] else []) ++ pad (cellB r k).data.toList (c.getD k 0)
def trimR (l : List UInt8) : List UInt8 := (l.reverse.dropWhile fun b => b == 32).reverse
def lineL (c : List Int) (r : List ByteArray) : ByteArray := strL (trimR (lineG c r c.length))
def alignL (L : List (List ByteArray)) : List ByteArray := L.map fun r => lineL (cols L) r
/-- The cells of the columns of one group. -/
def partP (L : List (List ByteArray)) (g : Nat × Nat) : List (List ByteArray) := L.map fun r => (r.take (min g.2 r.length)).drop (min g.1 r.length)
def wrapG (f : Nat × Nat → List ByteArray) (G : List (Nat × Nat)) : Nat → List ByteArray
  | 0 => []
  | i + 1 => wrapG f G i ++ (if 0 < i then [⟨#[]⟩] else []) ++ f (G.getD i (0, 0))
def wrapL (L : List (List ByteArray)) (W : Int) : List ByteArray := wrapG (fun g => alignL (partP L g)) (groups (cols L) W) (groups (cols L) W).length

theorem clus_len_le (l : List Nat) : (clus l).length ≤ l.length :=
  seg_ind (P := fun l => (clus l).length ≤ l.length) (Nat.le_refl _) (fun p ms rest hm hr ih => by
    rw [clus_seg p ms rest hm hr, List.length_cons, List.length_append, List.length_cons]
    omega) l
theorem wid_le (s : List UInt8) : wid s ≤ s.length := by
  unfold wid
  cases h : points s with
  | none => exact Nat.le_refl _
  | some d => exact Nat.le_trans (clus_len_le d) (points_length _ _ _ (Nat.le_refl _) h)
theorem widB_empty : widB ⟨#[]⟩ = 0 := rfl
theorem widB_le (s : ByteArray) : widB s ≤ s.size := by rw [Lib.size_eq]; exact wid_le _
theorem wid_clusB (s : List UInt8) (h : (points s).isSome = true) : wid s = (clusB s).length := by
  unfold wid clusB
  cases hp : points s with
  | none => rw [hp] at h; cases h
  | some d => simp
theorem cellB_none {r : List ByteArray} {k : Nat} (h : r.length ≤ k) : cellB r k = ⟨#[]⟩ := by
  unfold cellB
  rw [List.getD, List.getElem?_eq_none h]
  rfl
theorem cellB_some {r : List ByteArray} {k : Nat} {s : ByteArray} (h : r[k]? = some s) : cellB r k = s := by
  unfold cellB
  rw [List.getD, h]
  rfl
theorem nmax_le {L : List (List ByteArray)} {n : Nat} (h : ∀ r ∈ L, r.length ≤ n) : nmax L ≤ n := by
  induction L with
  | nil => exact Nat.zero_le _
  | cons r t ih => exact Nat.max_le.2 ⟨h r (by simp), ih fun x hx => h x (by simp [hx])⟩
theorem le_nmax {L : List (List ByteArray)} {r : List ByteArray} (h : r ∈ L) : r.length ≤ nmax L := by
  induction L with
  | nil => cases h
  | cons x t ih =>
    rcases List.mem_cons.1 h with rfl | h
    · exact Nat.le_max_left _ _
    · exact Nat.le_trans (ih h) (Nat.le_max_right _ _)
theorem colAt_big {L : List (List ByteArray)} {k : Nat} (h : nmax L ≤ k) : colAt L k = 0 := by
  induction L with
  | nil => rfl
  | cons r t ih =>
    have h1 := Nat.max_le.1 (show max r.length (nmax t) ≤ k from h)
    show max _ _ = _
    rw [ih h1.2, cellB_none h1.1, widB_empty]
    rfl
theorem nmax_snoc (L : List (List ByteArray)) (r : List ByteArray) : nmax (L ++ [r]) = max (nmax L) r.length := by
  induction L with
  | nil => show max r.length 0 = max 0 r.length; omega
  | cons x t ih =>
    show max x.length (nmax (t ++ [r])) = max (max x.length (nmax t)) r.length
    rw [ih]; omega
theorem colAt_snoc (L : List (List ByteArray)) (r : List ByteArray) (k : Nat) : colAt (L ++ [r]) k = max (colAt L k) (widB (cellB r k)) := by
  induction L with
  | nil => show max _ 0 = max 0 _; omega
  | cons x t ih =>
    show max _ (colAt (t ++ [r]) k) = max (max _ (colAt t k)) _
    rw [ih]; omega
theorem colAt_le {L : List (List ByteArray)} {k n : Nat} (h : ∀ r ∈ L, ∀ s ∈ r, s.size ≤ n) : colAt L k ≤ n := by
  induction L with
  | nil => exact Nat.zero_le _
  | cons r t ih =>
    refine Nat.max_le.2 ⟨?_, ih fun x hx => h x (by simp [hx])⟩
    refine Nat.le_trans (widB_le _) ?_
    cases hk : r[k]? with
    | none =>
      rw [cellB_none (by
        rw [List.getElem?_eq_none_iff] at hk; exact hk)]
      exact Nat.zero_le _
    | some s =>
      rw [cellB_some hk]
      exact h r (by simp) s (List.mem_of_getElem? hk)
theorem cols_len (L : List (List ByteArray)) : (cols L).length = nmax L := by unfold cols; simp
theorem cols_at {L : List (List ByteArray)} {k : Nat} (h : k < nmax L) : (cols L)[k]? = some (colAt L k : Int) := by
  unfold cols
  rw [List.getElem?_map, List.getElem?_range h]
  rfl
theorem cols_getD (L : List (List ByteArray)) (k : Nat) : (cols L).getD k 0 = (colAt L k : Int) := by
  by_cases h : k < nmax L
  · rw [List.getD, cols_at h]; rfl
  · rw [List.getD, List.getElem?_eq_none (by rw [cols_len]; omega), colAt_big (by omega)]; rfl
theorem colsG_len (n : Nat) (L : List (List ByteArray)) (r : List ByteArray) (j : Nat) : (colsG n L r j).length = n := by unfold colsG; simp
theorem colsG_at {n : Nat} {L : List (List ByteArray)} {r : List ByteArray} {j k : Nat} (h : k < n) : (colsG n L r j)[k]? = some (if k < j then max (colAt L k : Int) (widB (cellB r k) : Int) else (colAt L k : Int)) := by
  unfold colsG
  rw [List.getElem?_map, List.getElem?_range h]
  rfl
theorem colsG_zero (n : Nat) (L : List (List ByteArray)) (r : List ByteArray) : colsG n L r 0 = (List.range n).map fun k => (colAt L k : Int) := by
  unfold colsG
  refine List.map_congr_left fun k _ => ?_
  rw [if_neg (by omega)]
/-- One cell: the maximum is stored. -/
theorem colsG_set {n : Nat} {L : List (List ByteArray)} {r : List ByteArray} {j : Nat} (h : j < n) :
    (colsG n L r j).set j (max (colAt L j : Int) (widB (cellB r j) : Int)) = colsG n L r (j + 1) := by
  refine List.ext_getElem? fun k => ?_
  rw [List.getElem?_set, colsG_len]
  by_cases hk : k < n
  · rw [colsG_at hk, colsG_at hk]
    by_cases e : j = k
    · subst e
      rw [if_pos rfl, if_pos hk, if_pos (by omega)]
    · rw [if_neg e]
      by_cases h2 : k < j
      · rw [if_pos h2, if_pos (by omega)]
      · rw [if_neg h2, if_neg (by omega)]
  · rw [if_neg (by omega), List.getElem?_eq_none (by rw [colsG_len]; omega), List.getElem?_eq_none (by rw [colsG_len]; omega)]
/-- A new column begins with nothing. -/
theorem colsG_more {n : Nat} {L : List (List ByteArray)} {r : List ByteArray} {j : Nat} (h : nmax L ≤ n) (hj : j ≤ n) : colsG n L r j ++ [0] = colsG (n + 1) L r j := by
  refine List.ext_getElem? fun k => ?_
  by_cases hk : k < n
  · rw [List.getElem?_append_left (by rw [colsG_len]; exact hk), colsG_at hk, colsG_at (by omega)]
  · rw [List.getElem?_append_right (by rw [colsG_len]; omega), colsG_len]
    by_cases e : k = n
    · subst e
      rw [Nat.sub_self, colsG_at (by omega), if_neg (by omega), colAt_big h]
      rfl
    · rw [List.getElem?_eq_none (by simp; omega), List.getElem?_eq_none (by rw [colsG_len]; omega)]
theorem colsG_end {n : Nat} {L : List (List ByteArray)} {r : List ByteArray} {j : Nat} (hj : r.length ≤ j) : colsG n L r j = (List.range n).map fun k => (colAt (L ++ [r]) k : Int) := by
  unfold colsG
  refine List.map_congr_left fun k _ => ?_
  rw [colAt_snoc]
  by_cases h : k < j
  · rw [if_pos h]; omega
  · rw [if_neg h, cellB_none (by omega), widB_empty]; omega
theorem colsG_fin {L : List (List ByteArray)} {r : List ByteArray} : colsG (max (nmax L) r.length) L r r.length = cols (L ++ [r]) := by
  rw [colsG_end (Nat.le_refl _)]
  unfold cols
  rw [nmax_snoc]
/- Widths of pads. -/
theorem sp_len (n : Nat) : (sp n).length = n := by unfold sp; simp
theorem pad_len (s : List UInt8) (n : Int) : (pad s n).length ≤ s.length + 4000 := by
  unfold pad
  split
  · rw [List.length_append, sp_len]; omega
  · omega
theorem pad_id {s : List UInt8} {n : Int} (h : 4000 < n ∨ n ≤ wid s) : pad s n = s := by
  unfold pad
  rw [if_neg (by omega)]
end Go.Proofs.YthcabnfcgjnlnaaGreatDoor.Lay
/-
  Width and Pad, and those of the reference.
-/
namespace Go.Proofs.YthcabnfcgjnlnaaGreatDoor
open Go.RowKit Go.Shelf Ru Lay
set_option linter.unusedVariables false
set_option linter.unusedSimpArgs false

def intsO : Option (List Nat) → List Int
  | none => []
  | some d => d.map fun (p : Nat) => (p : Int)
theorem PointsPost.val {w w' : World} {o : Option (List Nat)} {e : Ending} (h : PointsPost w o e w') :
    ∃ A n c, e = .returned (.tuple #[.slice A n c, .bool o.isSome]) ∧ IR w' w'.heap.size A n (intsO o) ∧ n ≤ 9223372036854775807 ∧ Below w.heap.size w w' := by
  obtain ⟨h1, h2, h3⟩ := h
  cases o with
  | none => exact ⟨none, 0, 0, h1 rfl, Reads.none_, by omega, h3⟩
  | some d =>
    obtain ⟨v, rfl, hown⟩ := h2 d rfl
    obtain ⟨A, c, rfl, h5, h6, hr⟩ := own_form hown
    exact ⟨A, _, c, rfl, NR.ints hr, by omega, h3⟩
theorem widB_none {s : ByteArray} (h : points s.data.toList = none) : widB s = s.size := by
  unfold widB wid
  rw [h, Lib.size_eq]
theorem widB_some {s : ByteArray} {d : List Nat} (h : points s.data.toList = some d) : widB s = (clusB s.data.toList).length := wid_clusB _ (by rw [h]; rfl)
def padB (s : ByteArray) (n : Int) : ByteArray := strL (pad s.data.toList n)
theorem padB_size (s : ByteArray) (n : Int) : (padB s n).size ≤ s.size + 4000 := by
  unfold padB
  rw [strL_size, Lib.size_eq]
  exact pad_len _ _
theorem padB_id {s : ByteArray} {n : Int} (h : 4000 < n ∨ n ≤ widB s) : padB s n = s := by
  unfold padB
  rw [pad_id h]
  exact (strL_of rfl).symm

set_option maxHeartbeats 1000000 in
theorem width_any (s : ByteArray) (w : World) (hs : s.size ≤ 1099511627) (hT : Tabs w) :
    Calls Tryz.prog 94 #[.string s] w fun e w' => e = .returned (.int .i64 (widB s : Int)) ∧ Below w.heap.size w w' := by
  have HT := Lib.hid hT
  have HP := Lib.hid (points_any s w (by omega) HT.out)
  have HC := Lib.hid fun W (hb : Below w.heap.size w W) => clusters_any s W (by omega) (HT.out.on hb)
  clear hT
  obtain ⟨o, ho⟩ : ∃ o, points s.data.toList = o := ⟨_, rfl⟩
  rw [ho] at HP
  cases o with
  | none =>
    have HW : Hid ((s.size : Int) = (widB s : Int)) := by show _ = _; rw [widB_none ho]
    clear ho
    go_enter Tryz.func94, Tryz.ntmps94
    go_wp2_with fail
    refine HP.out.mono ?_
    intro e w1 hpp
    obtain ⟨A1, n1, c1, rfl, _, _, hb⟩ := hpp.val
    have HB1 : Hid (Below w.heap.size w w1) := hb
    clear hpp hb
    go_wp2
    go_ret
    exact ⟨ret_i64 HW.out, HB1.out⟩
  | some d =>
    have HW : Hid (((clusB s.data.toList).length : Int) = (widB s : Int)) := by show _ = _; rw [widB_some ho]
    clear ho
    go_enter Tryz.func94, Tryz.ntmps94
    go_wp2_with fail
    refine HP.out.mono ?_
    intro e w1 hpp
    obtain ⟨A1, n1, c1, rfl, _, _, hb⟩ := hpp.val
    have HB1 : Hid (Below w.heap.size w w1) := hb
    clear hpp hb
    go_wp2_with fail
    refine (HC.out _ HB1.out).mono ?_
    rintro e w2 ⟨v, rfl, hown, hb⟩
    obtain ⟨A2, c2, rfl, _, _, _⟩ := own_form hown
    have HB2 : Hid (Below w.heap.size w w2) := HB1.out.trans (hb.mono HB1.out.size)
    clear hown hb
    go_wp2
    go_ret
    exact ⟨ret_i64 HW.out, HB2.out⟩
theorem repeat_sp (n : Nat) : Lib.repeatL [32] n = sp n := by
  induction n with
  | zero => rfl
  | succ n ih => show [32] ++ Lib.repeatL [32] n = _; rw [ih]; rfl
set_option maxHeartbeats 1000000 in
theorem pad_any (s : ByteArray) (n : Int) (w : World) (hs : s.size ≤ 1099511627) (hT : Tabs w) :
    Calls Tryz.prog 96 #[.string s, .int .i64 n] w fun e w' => e = .returned (.string (padB s n)) ∧ Below w.heap.size w w' := by
  have HW := Lib.hid (width_any s w hs hT)
  have hwl := widB_le s
  obtain ⟨k, hk⟩ : ∃ k, widB s = k := ⟨_, rfl⟩
  have HK := Lib.hid hk
  rw [hk] at HW hwl
  clear hk
  by_cases h1 : (k : Int) < n
  · have hd1 : decide ((k : Int) < n) = true := decide_eq_true h1
    by_cases h2 : n ≤ 4000
    · have hd2 : decide (n ≤ 4000) = true := decide_eq_true h2
      obtain ⟨m, hm⟩ : ∃ m : Nat, n = (k : Int) + (m : Int) := ⟨(n - k).toNat, by omega⟩
      have hnk : n - (k : Int) = (m : Int) := by omega
      have HM := Lib.hid hm
      have HR := Lib.hid fun W => Tryz.strings_Repeat ⟨#[32]⟩ m W (by omega) (by show 1 * m ≤ _; omega)
      have hsz : (⟨(Lib.repeatL (⟨#[32]⟩ : ByteArray).data.toList m).toArray⟩ : ByteArray).size ≤ 4000 := by
        rw [Lib.size_eq]
        show (Lib.repeatL [32] m).length ≤ _
        rw [repeat_sp, sp_len]
        omega
      have HRES : Hid (s ++ (⟨(Lib.repeatL (⟨#[32]⟩ : ByteArray).data.toList m).toArray⟩ : ByteArray) = padB s n) := by
        show _ = _
        refine ba_ext ?_
        rw [app_data]
        unfold padB
        rw [strL_data]
        unfold pad
        rw [show wid s.data.toList = k from HK.out, if_pos ⟨h1, h2⟩]
        show _ ++ Lib.repeatL [32] m = _
        rw [repeat_sp, hnk]
        rfl
      obtain ⟨x, hx⟩ : ∃ x, (⟨(Lib.repeatL (⟨#[32]⟩ : ByteArray).data.toList m).toArray⟩ : ByteArray) = x := ⟨_, rfl⟩
      rw [hx] at HR hsz HRES
      clear hx hm
      have hcat : s.size + x.size ≤ 9223372036854775807 := by omega
      go_enter Tryz.func96, Tryz.ntmps96
      go_wp2_with fail
      refine HW.out.mono ?_
      rintro e w1 ⟨rfl, hb⟩
      have HB1 : Hid (Below w.heap.size w w1) := hb
      clear hb
      go_wp2_with fail
      refine (HR.out _).mono ?_
      rintro e w2 ⟨rfl, hb⟩
      have HB2 : Hid (Below w.heap.size w w2) := HB1.out.trans (hb.mono HB1.out.size)
      clear hb
      go_wp2
      go_ret
      exact ⟨ret_str HRES.out, HB2.out⟩
    · have hd2 : decide (n ≤ 4000) = false := decide_eq_false h2
      have HRES : Hid (s = padB s n) := (padB_id (.inl (by omega))).symm
      go_enter Tryz.func96, Tryz.ntmps96
      go_wp2_with fail
      refine HW.out.mono ?_
      rintro e w1 ⟨rfl, hb⟩
      have HB1 : Hid (Below w.heap.size w w1) := hb
      clear hb
      go_wp2
      go_ret
      exact ⟨ret_str HRES.out, HB1.out⟩
  · have hd1 : decide ((k : Int) < n) = false := decide_eq_false h1
    have HRES : Hid (s = padB s n) := (padB_id (.inr (by rw [HK.out]; omega))).symm
    go_enter Tryz.func96, Tryz.ntmps96
    go_wp2_with fail
    refine HW.out.mono ?_
    rintro e w1 ⟨rfl, hb⟩
    have HB1 : Hid (Below w.heap.size w w1) := hb
    clear hb
    go_wp2
    go_ret
    exact ⟨ret_str HRES.out, HB1.out⟩
end Go.Proofs.YthcabnfcgjnlnaaGreatDoor
/-
  SLICES OF SLICES OF STRINGS, as this chapter's walks read them; rows of integers that the call owns.
-/
namespace Go.Proofs.YthcabnfcgjnlnaaGreatDoor
open Go.RowKit Ru Lay
set_option linter.unusedVariables false
set_option linter.unusedSimpArgs false

/-- A slice of slices of strings reads as L. -/
def RowsC (w : World) (B : Nat) (A : Option Addr) (n : Nat) (L : List (List ByteArray)) : Prop :=
  ∃ xs, Reads w B 1 A n xs ∧ L.length = n ∧ ∀ (i : Nat) (l : List ByteArray), L[i]? = some l → ∃ A' n' c', xs[i]? = some (Value.slice A' n' c') ∧ SR w B A' n' l ∧ n' ≤ c' ∧ c' ≤ 9223372036854775807
theorem RowsC.at_ {w : World} {B n k : Nat} {A : Option Addr} {L : List (List ByteArray)} (h : RowsC w B A n L) (hk : k < n) :
    ∃ ad l A' n' c', A = some ad ∧ ad.block < B ∧ L[k]? = some l ∧ w.cell? (ad.add k) = some (Value.slice A' n' c') ∧ SR w B A' n' l ∧ n' ≤ c' ∧ c' ≤ 9223372036854775807 := by
  obtain ⟨xs, hr, hl, hi⟩ := h
  obtain ⟨ad, u, e, hb, hx, hc⟩ := hr.at_ hk
  have hlt : k < L.length := by omega
  obtain ⟨A', n', c', hx', hs, h1, h2⟩ := hi k L[k] (List.getElem?_eq_getElem hlt)
  rw [hx] at hx'
  cases hx'
  exact ⟨ad, L[k], A', n', c', e, hb, List.getElem?_eq_getElem hlt, hc, hs, h1, h2⟩
theorem RowsC.len {w : World} {B n : Nat} {A : Option Addr} {L : List (List ByteArray)} (h : RowsC w B A n L) : L.length = n := by obtain ⟨xs, hr, hl, hi⟩ := h; exact hl
theorem RowsC.below {w w' : World} {B n : Nat} {A : Option Addr} {L : List (List ByteArray)} (h : RowsC w B A n L) (hb : Below B w w') : RowsC w' B A n L := by
  obtain ⟨xs, hr, hl, hi⟩ := h
  refine ⟨xs, hr.below hb, hl, fun i l hil => ?_⟩
  obtain ⟨A', n', c', hx', hs, h1, h2⟩ := hi i l hil
  exact ⟨A', n', c', hx', Reads.below hs hb, h1, h2⟩
theorem RowsC.more {w : World} {B B' n : Nat} {A : Option Addr} {L : List (List ByteArray)} (h : RowsC w B A n L) (hB : B ≤ B') : RowsC w B' A n L := by
  obtain ⟨xs, hr, hl, hi⟩ := h
  refine ⟨xs, hr.more hB, hl, fun i l hil => ?_⟩
  obtain ⟨A', n', c', hx', hs, h1, h2⟩ := hi i l hil
  exact ⟨A', n', c', hx', Reads.more hs hB, h1, h2⟩
theorem RowsC.on {w w' : World} {n : Nat} {A : Option Addr} {L : List (List ByteArray)} (h : RowsC w w.heap.size A n L) (hb : Below w.heap.size w w') : RowsC w' w'.heap.size A n L := (h.below hb).more hb.size
theorem RowsC.none_ (w : World) (B : Nat) : RowsC w B none 0 [] := ⟨[], Reads.none_, rfl, fun i l h => by simp at h⟩
/-- Sizes that no sum of a walk outgrows. -/
def SzR (r : List ByteArray) : Prop := r.length ≤ 100000 ∧ ∀ s ∈ r, s.size ≤ 100000
def SzL (L : List (List ByteArray)) : Prop := L.length ≤ 100000 ∧ ∀ r ∈ L, SzR r
theorem SzL.row {L : List (List ByteArray)} (h : SzL L) {i : Nat} {r : List ByteArray} (hr : L[i]? = some r) : SzR r := h.2 r (List.mem_of_getElem? hr)
theorem SzR.cell {r : List ByteArray} (h : SzR r) {i : Nat} {s : ByteArray} (hs : r[i]? = some s) : s.size ≤ 100000 := h.2 s (List.mem_of_getElem? hs)
theorem SzL.nmax {L : List (List ByteArray)} (h : SzL L) : nmax L ≤ 100000 := nmax_le fun r hr => (h.2 r hr).1
theorem SzL.take {L : List (List ByteArray)} (h : SzL L) (k : Nat) : SzL (L.take k) := ⟨by have := h.1; rw [List.length_take]; omega, fun r hr => h.2 r (List.mem_of_mem_take hr)⟩
theorem SzL.col {L : List (List ByteArray)} (h : SzL L) (k : Nat) : colAt L k ≤ 100000 := colAt_le fun r hr s hs => (h.2 r hr).2 s hs
theorem SzR.cellB {r : List ByteArray} (h : SzR r) (k : Nat) : (cellB r k).size ≤ 100000 := by
  cases hk : r[k]? with
  | none => rw [cellB_none (by rw [List.getElem?_eq_none_iff] at hk; exact hk)]; exact Nat.zero_le _
  | some s => rw [cellB_some hk]; exact h.cell hk
/-- One element of a row of the call's own is stored. -/
theorem own_set {w : World} {base e g n cap : Nat} {xs : List Value} (j : Nat) (u : Value) (h : w.ownsRow base e 1 (.slice (some ⟨g, 0, none⟩) n cap) n xs) :
    (w.setCell ⟨g, j, none⟩ u).ownsRow base e 1 (.slice (some ⟨g, 0, none⟩) n cap) n (xs.set j u) ∧ Below base w (w.setCell ⟨g, j, none⟩ u) := by
  have h2 := h.stored j u
  exact ⟨h2.1, (Below.refl _ _).grown h2.2 (Nat.le_of_lt (Nat.lt_of_le_of_lt (h.lt g rfl).1 (h.lt g rfl).2)) fun k hk => by cases hk; exact (h.lt g rfl).1⟩
def intV (l : List Int) : List Value := l.map (.int .i64)
theorem intV_set (l : List Int) (j : Nat) (x : Int) : (intV l).set j (.int .i64 x) = intV (l.set j x) := by unfold intV; rw [List.map_set]
theorem intV_app (l : List Int) (x : Int) : intV l ++ [.int .i64 x] = intV (l ++ [x]) := by unfold intV; simp
/-- A row of integers of the call's own. -/
def OwnI (w : World) (base : Nat) (v : Value) (l : List Int) : Prop := w.ownsRow base 3 1 v l.length (intV l)
theorem OwnI.nil (w : World) (base : Nat) : OwnI w base (.slice none 0 0) [] := World.ownsRow_nil _ _ _ _
theorem OwnI.on {w w' : World} {base : Nat} {v : Value} {l : List Int} (h : OwnI w base v l) (hb : Below w.heap.size w w') : OwnI w' base v l := own_below h hb
theorem OwnI.form {w : World} {base : Nat} {v : Value} {l : List Int} (h : OwnI w base v l) : ∃ A c, v = .slice A l.length c ∧ l.length ≤ c ∧ c ≤ 9223372036854775807 ∧ IR w w.heap.size A l.length l := own_form h
theorem OwnI.at_ {w : World} {base : Nat} {v : Value} {l : List Int} (h : OwnI w base v l) {j : Nat} {x : Int} (hj : l[j]? = some x) :
    ∃ g cap, v = .slice (some ⟨g, 0, none⟩) l.length cap ∧ base ≤ g ∧ g < w.heap.size ∧ w.cell? ⟨g, j, none⟩ = some (.int .i64 x) ∧ w.frozen? ⟨g, j, none⟩ = false := by
  have hl := (List.getElem?_eq_some_iff.1 hj).1
  obtain ⟨g, cap, rfl, h1, h2⟩ := World.ownsRow.form h (by omega)
  refine ⟨g, cap, rfl, h1, h2, ?_, World.ownsRow.frozenAt h j⟩
  rw [World.ownsRow.cellAt h j (by omega)]
  unfold intV
  rw [List.getElem?_map, hj]
  rfl
theorem OwnI.set {w : World} {base g n cap : Nat} {l : List Int} (h : OwnI w base (.slice (some ⟨g, 0, none⟩) n cap) l) (hn : n = l.length) (j : Nat) (x : Int) :
    OwnI (w.setCell ⟨g, j, none⟩ (.int .i64 x)) base (.slice (some ⟨g, 0, none⟩) n cap) (l.set j x) ∧ Below base w (w.setCell ⟨g, j, none⟩ (.int .i64 x)) := by
  subst hn
  have h1 := own_set j (.int .i64 x) h
  rw [intV_set] at h1
  refine ⟨?_, h1.2⟩
  show World.ownsRow _ _ _ _ _ _ _
  rw [List.length_set]
  exact h1.1
theorem info_int2 : (Tryz.prog.info? 3).map (fun i => (i.zero, i.size, i.bytes)) = some (some (.int .i64 0), 1, 8) := by kernel_rfl

theorem take_atG {α : Type} {l : List α} {k : Nat} {x : α} (h : l[k]? = some x) : l.take (k + 1) = l.take k ++ [x] := by rw [List.take_add_one, h]; rfl
end Go.Proofs.YthcabnfcgjnlnaaGreatDoor
/-
  Columns, and that of the reference.
-/
namespace Go.Proofs.YthcabnfcgjnlnaaGreatDoor
open Go.RowKit Ru Lay
attribute [local go_sem ↓] Go.wp_at_zero Go.wp_at_succ
set_option linter.unusedVariables false
set_option linter.unusedSimpArgs false

set_option maxHeartbeats 4000000 in
set_option maxRecDepth 100000 in
theorem columns_any (A : Option Addr) (n c : Nat) (L : List (List ByteArray)) (w : World) (hL : RowsC w w.heap.size A n L) (hz : SzL L) (hT : Tabs w) :
    Calls Tryz.prog 71 #[.slice A n c] w fun e w' => ∃ v, e = .returned v ∧ OwnI w' w.heap.size v (cols L) ∧ Below w.heap.size w w' := by
  have HT := Lib.hid hT
  have HL := Lib.hid hL
  have HZ := Lib.hid hz
  have HLN := Lib.hid hL.len
  have hn : n ≤ 100000 := by have := hL.len; have := hz.1; omega
  clear hT hL hz
  go_enter Tryz.func71, Tryz.ntmps71
  go_wp2_with fail
  go_loopw [3, 10] (fun v3 v10 wr => ∃ i : Nat, i ≤ n ∧ v10 = .int .i64 i ∧ Hid (OwnI wr w.heap.size v3 (cols (L.take i))) ∧ Hid (Below w.heap.size w wr)) (fun _ v10 _ => n - (intOf v10).toNat)
  case atStart => exact ⟨0, Nat.zero_le _, rfl, (by rw [List.take_zero]; exact OwnI.nil _ _), Below.refl _ _⟩
  case round =>
    obtain ⟨i, hi, rfl, HO, HB⟩ := hrel
    obtain ⟨w0, hw0⟩ : ∃ w0, wr = w0 := ⟨_, rfl⟩
    rw [hw0] at HO HB ⊢
    clear hw0
    by_cases hlt : i < n
    · have hiz : (i : Int) < (n : Int) := by omega
      obtain ⟨ad, r, RA, rn, rc, rfl, hadb, hr, hcr, hsr, _, _⟩ := HL.out.at_ hlt
      have hcr0 : w0.cell? (ad.add i) = some (.slice RA rn rc) := (HB.out.cell (by rw [block_of_add]; exact hadb)).trans hcr
      have HR := Lib.hid hr
      have HSR := Lib.hid hsr
      have HRN : Hid (r.length = rn) := hsr.len
      have hrn : rn ≤ 100000 := by have := HRN.out; have := (HZ.out.row hr).1; omega
      have HSZ := Lib.hid (HZ.out.row hr)
      obtain ⟨Lt, hLt⟩ : ∃ Lt, L.take i = Lt := ⟨_, rfl⟩
      have HNX : Hid (L.take (i + 1) = Lt ++ [r]) := by show _ = _; rw [take_atG hr, hLt]
      have HNM : Hid (nmax Lt ≤ 100000) := by show _ ≤ _; rw [← hLt]; exact (HZ.out.take i).nmax
      rw [hLt] at HO
      have HI := Lib.hid hlt
      clear hcr hsr hr hLt
      go_wp2_with fail
      clear hcr0
      go_loopw [3, 16] (fun v3 v16 w1 => ∃ j m : Nat, j ≤ rn ∧ v16 = .int .i64 j ∧ Hid (m = max (nmax Lt) j) ∧ Hid (OwnI w1 w.heap.size v3 (colsG m Lt r j)) ∧ Hid (Below w.heap.size w w1)) (fun _ v16 _ => rn - (intOf v16).toNat)
      case atStart =>
        refine ⟨0, nmax Lt, Nat.zero_le _, rfl, (by show _ = _; omega), ?_, HB⟩
        have h0 : colsG (nmax Lt) Lt r 0 = cols Lt := by rw [colsG_zero]; rfl
        rw [h0]
        exact HO
      case round =>
        clear HO HB
        obtain ⟨j, m0, hj, rfl, HM0, HO, HB⟩ := hrel
        obtain ⟨w1, hw1⟩ : ∃ w1, w1 = wr := ⟨_, rfl⟩
        rw [← hw1] at HO HB ⊢
        clear hw1
        by_cases hjl : j < rn
        · have hjz : (j : Int) < (rn : Int) := by omega
          obtain ⟨rd, s, rfl, hrb, hs, hcs⟩ := HSR.out.at_ hjl
          have hcs1 : w1.cell? (rd.add j) = some (.string s) := (HB.out.cell (by rw [block_of_add]; exact hrb)).trans hcs
          have HS := Lib.hid hs
          have hss := HSZ.out.cell hs
          have HWD := Lib.hid fun W (hb : Below w.heap.size w W) => width_any s W (by omega) (HT.out.on hb)
          have hm0 : m0 ≤ 200000 := by have h1 := HM0.out; have h2 := HNM.out; omega
          obtain ⟨vA, vc, hvf, _, _, _⟩ := HO.out.form
          rw [colsG_len] at hvf
          subst hvf
          have hszw := HB.out.size
          clear hcs hs
          by_cases hjm0 : j < m0
          · have hne : ((j : Int) == (m0 : Int)) = false := beq_eq_false_iff_ne.2 (by omega)
            have hne2 : ¬ j = m0 := by omega
            obtain ⟨m, hm⟩ : ∃ m, m = m0 := ⟨_, rfl⟩
            have HMX : Hid (m = max (nmax Lt) (j + 1)) := by show _ = _; have := HM0.out; omega
            have HJM : Hid (j < m) := by show _ < _; omega
            obtain ⟨WW, hWW⟩ : ∃ WW, WW = w1 := ⟨_, rfl⟩
            rw [← hm] at HO hne hne2 hm0 ⊢
            rw [← hWW] at HO HB hszw hcs1 ⊢
            have HO2 := HO
            have HBW := HB
            clear hm hWW hjm0 HM0 HO HB
            go_wp2_with fail
            have hlx : (colsG m Lt r j)[j]? = some (colAt Lt j : Int) := by rw [colsG_at HJM.out, if_neg (by omega)]
            obtain ⟨g, cap, hv, hg1, hgl, hcl, hfl⟩ := HO2.out.at_ hlx
            have hml : (colsG m Lt r j).length = m := colsG_len _ _ _ _
            rw [hml] at hv
            first | subst hv | cases hv
            have HX : Hid ((colsG m Lt r j).set j (max (colAt Lt j : Int) (widB s : Int)) = colsG m Lt r (j + 1)) := by
              have h0 := colsG_set (n := m) (L := Lt) (r := r) (j := j) HJM.out
              rw [cellB_some HS.out] at h0
              exact h0
            obtain ⟨x, hx⟩ : ∃ x : Int, (colAt Lt j : Int) = x := ⟨_, rfl⟩
            rw [hx] at hcl HX
            obtain ⟨y, hy⟩ : ∃ y : Int, (widB s : Int) = y := ⟨_, rfl⟩
            rw [hy] at HWD HX
            have hjA : (0 : Int) ≤ (j : Int) := by omega
            have hjm := HJM.out
            have hjmz : (j : Int) < (m : Int) := by omega
            have HML := Lib.hid hml
            clear hlx hml hx hy
            have eaddr : (⟨g, 0, none⟩ : Addr).add j = ⟨g, j, none⟩ := by
              unfold Addr.add
              split
              · rename_i h; simp [h]
              · simp
            go_region_with ((go_at_call 94; refine (HWD.out _ (HBW.out.drew)).mono ?_; rintro e w3 ⟨rfl, hb3⟩
                             have hl3 : w3.cell? ⟨g, j, none⟩ = some (.int .i64 x) := (hb3.cell hgl).trans hcl
                             have hf3 : w3.frozen? ⟨g, j, none⟩ = false := (hb3.frozen hgl).trans hfl))
            all_goals
              have HBB : Hid (Below WW.heap.size WW w3) := (Below.refl _ WW).drew.trans hb3
              have hown3 := HO2.out.on HBB.out
              have hst := hown3.set HML.out.symm j (max x y)
              rw [HX.out] at hst
              have HO4 := Lib.hid hst.1
              have HB4 : Hid (Below w.heap.size w (w3.setCell ⟨g, j, none⟩ (.int .i64 (max x y)))) := (HBW.out.trans (HBB.out.mono HBW.out.size)).trans hst.2
              clear hst hown3 hb3 hl3 hf3
              go_wp2
              go_roundw
              case rel => exact ⟨j + 1, m, by omega, by go_num, HMX.out, HO4, HB4⟩
              case measure => simp [intOf]; omega
          · have hje : j = m0 := by have := HM0.out; omega
            have hne : ((j : Int) == (m0 : Int)) = true := beq_iff_eq.2 (by omega)
            have HOW : Hid (w1.ownsRow w.heap.size 3 1 (.slice vA m0 vc) m0 (intV (colsG m0 Lt r j))) := by
              have h0 := HO.out
              unfold OwnI at h0
              rw [colsG_len] at h0
              exact h0
            obtain ⟨m, hm⟩ : ∃ m, m = m0 + 1 := ⟨_, rfl⟩
            have HMX : Hid (m = max (nmax Lt) (j + 1)) := by show _ = _; have := HM0.out; omega
            have HJM : Hid (j < m) := by show _ < _; omega
            have HCG : Hid (colsG m0 Lt r j ++ [0] = colsG m Lt r j) := by
              show _ = _
              rw [hm]
              exact colsG_more (by have := HM0.out; omega) (by omega)
            have HMM := Lib.hid hm
            clear hje hm hjm0 HM0 HO
            go_wp2_with (at_builtin; refine wpList_app1 rfl (.tmp 25) (.tmp 26) 32 rfl w.heap.size 3 8 _ info_int2 rfl Tryz.underlying32 rfl HOW.out rfl rfl (by omega) (by omega) hszw ?_; rintro v7 WW hown7 hb7 hs7 hk7; clear hk7)
            have HO2 : Hid (OwnI WW w.heap.size v7 (colsG m Lt r j)) := by
              show World.ownsRow _ _ _ _ _ _ _
              rw [colsG_len, HMM.out, ← HMM.out, ← HCG.out, ← intV_app, HMM.out]
              exact hown7
            have HBW : Hid (Below w.heap.size w WW) := HB.out.trans hb7
            have hszW := HBW.out.size
            clear hown7 hb7 hs7 HOW HCG
            have hlx : (colsG m Lt r j)[j]? = some (colAt Lt j : Int) := by rw [colsG_at HJM.out, if_neg (by omega)]
            obtain ⟨g, cap, hv, hg1, hgl, hcl, hfl⟩ := HO2.out.at_ hlx
            have hml : (colsG m Lt r j).length = m := colsG_len _ _ _ _
            rw [hml] at hv
            first | subst hv | cases hv
            have HX : Hid ((colsG m Lt r j).set j (max (colAt Lt j : Int) (widB s : Int)) = colsG m Lt r (j + 1)) := by
              have h0 := colsG_set (n := m) (L := Lt) (r := r) (j := j) HJM.out
              rw [cellB_some HS.out] at h0
              exact h0
            obtain ⟨x, hx⟩ : ∃ x : Int, (colAt Lt j : Int) = x := ⟨_, rfl⟩
            rw [hx] at hcl HX
            obtain ⟨y, hy⟩ : ∃ y : Int, (widB s : Int) = y := ⟨_, rfl⟩
            rw [hy] at HWD HX
            have hjA : (0 : Int) ≤ (j : Int) := by omega
            have hjm := HJM.out
            have hjmz : (j : Int) < (m : Int) := by omega
            have HML := Lib.hid hml
            clear hlx hml hx hy
            have eaddr : (⟨g, 0, none⟩ : Addr).add j = ⟨g, j, none⟩ := by
              unfold Addr.add
              split
              · rename_i h; simp [h]
              · simp
            go_region_with ((go_at_call 94; refine (HWD.out _ (HBW.out.drew)).mono ?_; rintro e w3 ⟨rfl, hb3⟩
                             have hl3 : w3.cell? ⟨g, j, none⟩ = some (.int .i64 x) := (hb3.cell hgl).trans hcl
                             have hf3 : w3.frozen? ⟨g, j, none⟩ = false := (hb3.frozen hgl).trans hfl))
            all_goals
              have HBB : Hid (Below WW.heap.size WW w3) := (Below.refl _ WW).drew.trans hb3
              have hown3 := HO2.out.on HBB.out
              have hst := hown3.set HML.out.symm j (max x y)
              rw [HX.out] at hst
              have HO4 := Lib.hid hst.1
              have HB4 : Hid (Below w.heap.size w (w3.setCell ⟨g, j, none⟩ (.int .i64 (max x y)))) := (HBW.out.trans (HBB.out.mono HBW.out.size)).trans hst.2
              clear hst hown3 hb3 hl3 hf3
              go_wp2
              go_roundw
              case rel => exact ⟨j + 1, m, by omega, by go_num, HMX.out, HO4, HB4⟩
              case measure => simp [intOf]; omega
        · obtain rfl : j = rn := by omega
          have hjz : ¬ (j : Int) < (j : Int) := by omega
          have hcc : colsG m0 Lt r j = cols (L.take (i + 1)) := by rw [HNX.out, ← colsG_fin, HRN.out, ← HM0.out]
          have h0 := HO.out
          rw [hcc] at h0
          have HO5 := Lib.hid h0
          clear hcc h0
          have hi1 : i + 1 ≤ n := HI.out
          go_wp2
          go_roundw
          case rel => exact ⟨i + 1, hi1, by go_num, HO5, HB⟩
          case measure => have := HI.out; simp [intOf]; omega
    · obtain rfl : i = n := by omega
      have hjz : ¬ (i : Int) < (i : Int) := by omega
      have h0 := HO.out
      rw [List.take_of_length_le (by rw [HLN.out]; exact Nat.le_refl _)] at h0
      have HO5 := Lib.hid h0
      clear h0
      go_wp2
      go_ret
      exact ⟨_, rfl, HO5.out, HB.out⟩
end Go.Proofs.YthcabnfcgjnlnaaGreatDoor
/-
  PLAIN LAW of the chapter on layout: the clusters of a line, padded, are those of its cells, each at its place. No program in sight.
-/
set_option linter.unusedVariables false
set_option linter.unusedSimpArgs false
namespace Go.Proofs.YthcabnfcgjnlnaaGreatDoor.Lay
open Go.Proofs.YthcabnfcgjnlnaaGreatDoor Go.Proofs.YthcabnfcgjnlnaaGreatDoor.Ru

def blanks (n : Nat) : List (List Nat) := List.replicate n [32]
/- Blanks at the end. -/
theorem trimR_split (l : List UInt8) : ∃ m, l = trimR l ++ sp m := by
  unfold trimR
  have h1 : ∀ r : List UInt8, ∃ m, r = List.replicate m 32 ++ r.dropWhile fun b => b == 32 := by
    intro r
    induction r with
    | nil => exact ⟨0, rfl⟩
    | cons b t ih =>
      by_cases hb : (b == 32) = true
      · obtain ⟨m, hm⟩ := ih
        refine ⟨m + 1, ?_⟩
        rw [List.dropWhile_cons_of_pos (p := fun b : UInt8 => b == 32) hb, List.replicate_succ, List.cons_append, ← hm]
        rw [beq_iff_eq.1 hb]
      · exact ⟨0, by rw [List.dropWhile_cons_of_neg (p := fun b : UInt8 => b == 32) hb]; rfl⟩
  obtain ⟨m, hm⟩ := h1 l.reverse
  refine ⟨m, ?_⟩
  have h2 := congrArg List.reverse hm
  rw [List.reverse_reverse, List.reverse_append, List.reverse_replicate] at h2
  exact h2
theorem trimR_len (l : List UInt8) : (trimR l).length ≤ l.length := by
  obtain ⟨m, h⟩ := trimR_split l
  have := congrArg List.length h
  rw [List.length_append] at this
  omega
end Go.Proofs.YthcabnfcgjnlnaaGreatDoor.Lay
