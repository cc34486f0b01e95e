import Derived.Test.YtdpllfgnppeneaaGreatDoorG03
import Derived.Deep.RegionWith
import Derived.Deep.DrawnRows
import Derived.Test.YtdpllfgnppeneaaGreatDoorG02
import Derived.Lib.MapLaws
import Derived.Lib.ValidLaws
import Derived.Lib.TrimUEq
import Derived.Lib.RuneBytes
namespace Go.Proofs.YtdpllfgnppeneaaGreatDoor
open Go.RowKit Ru
attribute [local go_sem ↓] Go.wp_at_zero Go.wp_at_succ
set_option linter.unusedVariables false
set_option linter.unusedSimpArgs false

def strC (c : List Nat) : ByteArray := strL (encS c)
/-- The clusters of a string; none if it is not valid. -/
def clusB (s : List UInt8) : List ByteArray :=
  match points s with
  | none => []
  | some d => (clus d).map strC
/-- What has been collected when i points are over. -/
def CluRel (d : List Nat) (i : Nat) (cs : List (List Nat)) : Prop :=
  (i = 0 ∧ cs = []) ∨ (0 < i ∧ ∃ done c, cs = done ++ [c] ∧ c.length ≤ i ∧ clus d = done ++ cluGo c (d.drop i))
theorem CluRel.start {d : List Nat} {p : Nat} (hp : d[0]? = some p) : CluRel d 1 [[p]] := by
  refine .inr ⟨by omega, [], [p], rfl, by simp, ?_⟩
  cases d with
  | nil => simp at hp
  | cons x t => simp at hp; subst hp; rfl
theorem CluRel.mark {d : List Nat} {i p : Nat} {done : List (List Nat)} {c : List Nat} (h : clus d = done ++ cluGo c (d.drop i)) (hl : c.length ≤ i) (hp : d[i]? = some p) (hm : mk p = true) : CluRel d (i + 1) (done ++ [c ++ [p]]) := by
  refine .inr ⟨by omega, done, c ++ [p], rfl, by simp; omega, ?_⟩
  rw [h, drop_at hp]
  show done ++ (if mk p = true then cluGo (c ++ [p]) (d.drop (i + 1)) else _) = _
  rw [if_pos hm]
theorem CluRel.base {d : List Nat} {i p : Nat} {done : List (List Nat)} {c : List Nat} (h : clus d = done ++ cluGo c (d.drop i)) (hl : c.length ≤ i) (hp : d[i]? = some p) (hm : mk p = false) : CluRel d (i + 1) ((done ++ [c]) ++ [[p]]) := by
  refine .inr ⟨by omega, done ++ [c], [p], rfl, by simp, ?_⟩
  rw [h, drop_at hp]
  show done ++ (if mk p = true then _ else c :: cluGo [p] (d.drop (i + 1))) = _
  rw [hm, if_neg (by simp)]
  simp
theorem CluRel.fin {d : List Nat} {cs : List (List Nat)} (h : CluRel d d.length cs) : clus d = cs := by
  rcases h with ⟨h0, rfl⟩ | ⟨_, done, c, rfl, _, h⟩
  · have : d = [] := List.eq_nil_of_length_eq_zero h0
    subst this
    rfl
  · rw [h, List.drop_length]
    rfl
def strV (cs : List (List Nat)) : List Value := cs.map fun c => Value.string (strC c)
theorem own_stored {w : World} {base e g n cap k : Nat} {done : List (List Nat)} {c c' : List Nat} (h : w.ownsRow base e 1 (.slice (some ⟨g, 0, none⟩) n cap) n (strV (done ++ [c]))) (hk : done.length = k) :
    (w.setCell ⟨g, k, none⟩ (.string (strC c'))).ownsRow base e 1 (.slice (some ⟨g, 0, none⟩) n cap) n (strV (done ++ [c'])) ∧ Below base w (w.setCell ⟨g, k, none⟩ (.string (strC c'))) := by
  subst hk
  have h2 := h.stored done.length (.string (strC c'))
  have e1 : (strV (done ++ [c])).set done.length (.string (strC c')) = strV (done ++ [c']) := by
    unfold strV
    rw [List.map_append, List.map_append, List.set_append_right _ _ (by simp)]
    simp
  rw [e1] at h2
  exact ⟨h2.1, (Below.refl _ _).grown h2.2 (Nat.le_of_lt (Nat.lt_of_le_of_lt (h.lt g rfl).1 (h.lt g rfl).2)) fun k hk => by cases hk; exact (h.lt g rfl).1⟩

end Go.Proofs.YtdpllfgnppeneaaGreatDoor

/-
  PLAIN LAW of the chapter on layout: widths, pads, columns, groups and lines. No program in sight.
-/
set_option linter.unusedVariables false
set_option linter.unusedSimpArgs false
namespace Go.Proofs.YtdpllfgnppeneaaGreatDoor.Lay
open Go.Proofs.YtdpllfgnppeneaaGreatDoor Go.Proofs.YtdpllfgnppeneaaGreatDoor.Ru

/-- The width of a string. -/
def wid (s : List UInt8) : Nat :=
  match points s with
  | none => s.length
  | some d => (clus d).length
def widB (s : ByteArray) : Nat := wid s.data.toList
/-- Blanks. -/
def sp (n : Nat) : List UInt8 := List.replicate n 32
def pad (s : List UInt8) (n : Int) : List UInt8 := if (wid s : Int) < n ∧ n ≤ 4000 then s ++ sp (n - wid s).toNat else s
def cellB (r : List ByteArray) (k : Nat) : ByteArray := r.getD k ⟨#[]⟩
/-- The number of columns. -/
def nmax : List (List ByteArray) → Nat
  | [] => 0
  | r :: t => max r.length (nmax t)
/-- The width of a column. -/
def colAt : List (List ByteArray) → Nat → Nat
  | [], _ => 0
  | r :: t, k => max (widB (cellB r k)) (colAt t k)
def cols (L : List (List ByteArray)) : List Int := (List.range (nmax L)).map fun k => (colAt L k : Int)
/-- What has been collected when the rows L and j cells of the row r are over, n columns being there. -/
def colsG (n : Nat) (L : List (List ByteArray)) (r : List ByteArray) (j : Nat) : List Int :=
  (List.range n).map fun k => if k < j then max (colAt L k : Int) (widB (cellB r k) : Int) else (colAt L k : Int)
/-- The groups of the first i columns, and the width of the last one. -/
def gst (c : List Int) (W : Int) : Nat → List (Nat × Nat) × Int
  | 0 => ([], 0)
  | i + 1 =>
    if 0 < i ∧ (gst c W i).2 ≤ W ∧ max (c.getD i 0) 0 ≤ W - (gst c W i).2 - 1 then
      ((gst c W i).1.dropLast ++ [(((gst c W i).1.getLast?.getD (0, 0)).1, i + 1)], (gst c W i).2 + 1 + max (c.getD i 0) 0)
    else ((gst c W i).1 ++ [(i, i + 1)], max (c.getD i 0) 0)
def groups (c : List Int) (W : Int) : List (Nat × Nat) := (gst c W c.length).1
/-- The first k cells of a line. -/
def lineG (c : List Int) (r : List ByteArray) : Nat → List UInt8
  | 0 => []
  | k + 1 => lineG c r k ++ (if 0 < k then [32] else []) ++ pad (cellB r k).data.toList (c.getD k 0)
def trimR (l : List UInt8) : List UInt8 := (l.reverse.dropWhile fun b => b == 32).reverse
def lineL (c : List Int) (r : List ByteArray) : ByteArray := strL (trimR (lineG c r c.length))
def alignL (L : List (List ByteArray)) : List ByteArray := L.map fun r => lineL (cols L) r
/-- The cells of the columns of one group. -/
def partP (L : List (List ByteArray)) (g : Nat × Nat) : List (List ByteArray) := L.map fun r => (r.take (min g.2 r.length)).drop (min g.1 r.length)
def partR (L : List (List ByteArray)) (g : Nat × Nat) : List (List ByteArray) := L.map fun r => (List.range (g.2 - g.1)).map fun j => cellB r (g.1 + j)
def wrapG (f : Nat × Nat → List ByteArray) (G : List (Nat × Nat)) : Nat → List ByteArray
  | 0 => []
  | i + 1 => wrapG f G i ++ (if 0 < i then [⟨#[]⟩] else []) ++ f (G.getD i (0, 0))
def wrapL (L : List (List ByteArray)) (W : Int) : List ByteArray := wrapG (fun g => alignL (partP L g)) (groups (cols L) W) (groups (cols L) W).length

theorem clus_len_le (l : List Nat) : (clus l).length ≤ l.length :=
  seg_ind (P := fun l => (clus l).length ≤ l.length) (Nat.le_refl _) (fun p ms rest hm hr ih => by
    rw [clus_seg p ms rest hm hr, List.length_cons, List.length_append, List.length_cons]
    omega) l
theorem wid_le (s : List UInt8) : wid s ≤ s.length := by
  unfold wid
  cases h : points s with
  | none => exact Nat.le_refl _
  | some d => exact Nat.le_trans (clus_len_le d) (points_length _ _ _ (Nat.le_refl _) h)
theorem wid_nil : wid [] = 0 := rfl
theorem widB_empty : widB ⟨#[]⟩ = 0 := rfl
theorem widB_le (s : ByteArray) : widB s ≤ s.size := by rw [Lib.size_eq]; exact wid_le _
theorem wid_clusB (s : List UInt8) (h : (points s).isSome = true) : wid s = (clusB s).length := by
  unfold wid clusB
  cases hp : points s with
  | none => rw [hp] at h; cases h
  | some d => simp
theorem cellB_none {r : List ByteArray} {k : Nat} (h : r.length ≤ k) : cellB r k = ⟨#[]⟩ := by
  unfold cellB
  rw [List.getD, List.getElem?_eq_none h]
  rfl
theorem cellB_some {r : List ByteArray} {k : Nat} {s : ByteArray} (h : r[k]? = some s) : cellB r k = s := by
  unfold cellB
  rw [List.getD, h]
  rfl
theorem nmax_le {L : List (List ByteArray)} {n : Nat} (h : ∀ r ∈ L, r.length ≤ n) : nmax L ≤ n := by
  induction L with
  | nil => exact Nat.zero_le _
  | cons r t ih => exact Nat.max_le.2 ⟨h r (by simp), ih fun x hx => h x (by simp [hx])⟩
theorem le_nmax {L : List (List ByteArray)} {r : List ByteArray} (h : r ∈ L) : r.length ≤ nmax L := by
  induction L with
  | nil => cases h
  | cons x t ih =>
    rcases List.mem_cons.1 h with rfl | h
    · exact Nat.le_max_left _ _
    · exact Nat.le_trans (ih h) (Nat.le_max_right _ _)
theorem colAt_big {L : List (List ByteArray)} {k : Nat} (h : nmax L ≤ k) : colAt L k = 0 := by
  induction L with
  | nil => rfl
  | cons r t ih =>
    have h1 := Nat.max_le.1 (show max r.length (nmax t) ≤ k from h)
    show max _ _ = _
    rw [ih h1.2, cellB_none h1.1, widB_empty]
    rfl
theorem nmax_snoc (L : List (List ByteArray)) (r : List ByteArray) : nmax (L ++ [r]) = max (nmax L) r.length := by
  induction L with
  | nil => show max r.length 0 = max 0 r.length; omega
  | cons x t ih =>
    show max x.length (nmax (t ++ [r])) = max (max x.length (nmax t)) r.length
    rw [ih]; omega
theorem colAt_snoc (L : List (List ByteArray)) (r : List ByteArray) (k : Nat) : colAt (L ++ [r]) k = max (colAt L k) (widB (cellB r k)) := by
  induction L with
  | nil => show max _ 0 = max 0 _; omega
  | cons x t ih =>
    show max _ (colAt (t ++ [r]) k) = max (max _ (colAt t k)) _
    rw [ih]; omega
theorem colAt_le {L : List (List ByteArray)} {k n : Nat} (h : ∀ r ∈ L, ∀ s ∈ r, s.size ≤ n) : colAt L k ≤ n := by
  induction L with
  | nil => exact Nat.zero_le _
  | cons r t ih =>
    refine Nat.max_le.2 ⟨?_, ih fun x hx => h x (by simp [hx])⟩
    refine Nat.le_trans (widB_le _) ?_
    cases hk : r[k]? with
    | none =>
      rw [cellB_none (by
        rw [List.getElem?_eq_none_iff] at hk; exact hk)]
      exact Nat.zero_le _
    | some s =>
      rw [cellB_some hk]
      exact h r (by simp) s (List.mem_of_getElem? hk)
theorem cols_len (L : List (List ByteArray)) : (cols L).length = nmax L := by unfold cols; simp
theorem cols_at {L : List (List ByteArray)} {k : Nat} (h : k < nmax L) : (cols L)[k]? = some (colAt L k : Int) := by
  unfold cols
  rw [List.getElem?_map, List.getElem?_range h]
  rfl
theorem cols_getD (L : List (List ByteArray)) (k : Nat) : (cols L).getD k 0 = (colAt L k : Int) := by
  by_cases h : k < nmax L
  · rw [List.getD, cols_at h]; rfl
  · rw [List.getD, List.getElem?_eq_none (by rw [cols_len]; omega), colAt_big (by omega)]; rfl
theorem colsG_len (n : Nat) (L : List (List ByteArray)) (r : List ByteArray) (j : Nat) : (colsG n L r j).length = n := by unfold colsG; simp
theorem colsG_at {n : Nat} {L : List (List ByteArray)} {r : List ByteArray} {j k : Nat} (h : k < n) : (colsG n L r j)[k]? = some (if k < j then max (colAt L k : Int) (widB (cellB r k) : Int) else (colAt L k : Int)) := by
  unfold colsG
  rw [List.getElem?_map, List.getElem?_range h]
  rfl
theorem colsG_zero (n : Nat) (L : List (List ByteArray)) (r : List ByteArray) : colsG n L r 0 = (List.range n).map fun k => (colAt L k : Int) := by
  unfold colsG
  refine List.map_congr_left fun k _ => ?_
  rw [if_neg (by omega)]
/-- One cell: the maximum is stored. -/
theorem colsG_set {n : Nat} {L : List (List ByteArray)} {r : List ByteArray} {j : Nat} (h : j < n) :
    (colsG n L r j).set j (max (colAt L j : Int) (widB (cellB r j) : Int)) = colsG n L r (j + 1) := by
  refine List.ext_getElem? fun k => ?_
  rw [List.getElem?_set, colsG_len]
  by_cases hk : k < n
  · rw [colsG_at hk, colsG_at hk]
    by_cases e : j = k
    · subst e
      rw [if_pos rfl, if_pos hk, if_pos (by omega)]
    · rw [if_neg e]
      by_cases h2 : k < j
      · rw [if_pos h2, if_pos (by omega)]
      · rw [if_neg h2, if_neg (by omega)]
  · rw [if_neg (by omega), List.getElem?_eq_none (by rw [colsG_len]; omega), List.getElem?_eq_none (by rw [colsG_len]; omega)]
/-- A new column begins with nothing. -/
theorem colsG_more {n : Nat} {L : List (List ByteArray)} {r : List ByteArray} {j : Nat} (h : nmax L ≤ n) (hj : j ≤ n) : colsG n L r j ++ [0] = colsG (n + 1) L r j := by
  refine List.ext_getElem? fun k => ?_
  by_cases hk : k < n
  · rw [List.getElem?_append_left (by rw [colsG_len]; exact hk), colsG_at hk, colsG_at (by omega)]
  · rw [List.getElem?_append_right (by rw [colsG_len]; omega), colsG_len]
    by_cases e : k = n
    · subst e
      rw [Nat.sub_self, colsG_at (by omega), if_neg (by omega), colAt_big h]
      rfl
    · rw [List.getElem?_eq_none (by simp; omega), List.getElem?_eq_none (by rw [colsG_len]; omega)]
theorem colsG_end {n : Nat} {L : List (List ByteArray)} {r : List ByteArray} {j : Nat} (hj : r.length ≤ j) : colsG n L r j = (List.range n).map fun k => (colAt (L ++ [r]) k : Int) := by
  unfold colsG
  refine List.map_congr_left fun k _ => ?_
  rw [colAt_snoc]
  by_cases h : k < j
  · rw [if_pos h]; omega
  · rw [if_neg h, cellB_none (by omega), widB_empty]; omega
theorem colsG_fin {L : List (List ByteArray)} {r : List ByteArray} : colsG (max (nmax L) r.length) L r r.length = cols (L ++ [r]) := by
  rw [colsG_end (Nat.le_refl _)]
  unfold cols
  rw [nmax_snoc]
theorem cols_nil : cols [] = [] := rfl

/- Widths of pads. -/
theorem sp_zero : sp 0 = [] := rfl
theorem sp_succ (n : Nat) : sp (n + 1) = 32 :: sp n := rfl
theorem sp_snoc (n : Nat) : sp (n + 1) = sp n ++ [32] := by unfold sp; exact List.replicate_succ'
theorem sp_add (a b : Nat) : sp (a + b) = sp a ++ sp b := by unfold sp; exact (List.replicate_append_replicate).symm
theorem sp_len (n : Nat) : (sp n).length = n := by unfold sp; simp
theorem encL_blank : encL ((32 : Nat) : Int) = [32] := by decide
theorem sc_blank : Sc [32] := fun p hp => by
  rw [List.mem_singleton] at hp
  subst hp
  decide
theorem mk_blank : mk 32 = false := by decide
theorem points_blank {s : List UInt8} {d : List Nat} (h : points s = some d) : points (s ++ [32]) = some (d ++ [32]) := by
  rw [← encS_points h, points_app (points_sc h)]
  have : points [32] = some [32] := by
    have h1 := points_encS sc_blank
    rw [encS_one, encL_blank] at h1
    exact h1
  rw [this]
  rfl
theorem encL_last {p : Nat} (h : scalarB (p : Int) = true) {l : List UInt8} (e : encL (p : Int) = l ++ [32]) : p = 32 ∧ l = [] := by
  have hs := scalar_iff.1 h
  unfold encL encI at e
  have key : ∀ (x : Int) (a : List UInt8), 128 ≤ x → x < 256 → a ++ [UInt8.ofNat x.toNat] = l ++ [32] → False := fun x a h1 h2 he => by
    have h3 := (List.append_inj' he rfl).2
    injection h3 with h3 _
    have h4 := congrArg UInt8.toNat h3
    rw [u8_nat (by omega)] at h4
    have h5 : (32 : UInt8).toNat = 32 := rfl
    omega
  split at e
  · have h3 := List.append_inj' (show ([] : List UInt8) ++ [UInt8.ofNat (p : Int).toNat] = l ++ [32] from e) rfl
    obtain ⟨h4, h5⟩ := h3
    injection h5 with h5 _
    have h6 := congrArg UInt8.toNat h5
    rw [u8_nat (by omega)] at h6
    have h7 : (32 : UInt8).toNat = 32 := rfl
    exact ⟨by omega, h4.symm⟩
  · exfalso
    split at e
    · exact key (128 + (p : Int) % 64) [UInt8.ofNat (192 + (p : Int) / 64).toNat] (by omega) (by omega) e
    · split at e
      · exact key (128 + (p : Int) % 64) [UInt8.ofNat (224 + (p : Int) / 4096).toNat, UInt8.ofNat (128 + (p : Int) / 64 % 64).toNat] (by omega) (by omega) e
      · exact key (128 + (p : Int) % 64) [UInt8.ofNat (240 + (p : Int) / 262144).toNat, UInt8.ofNat (128 + (p : Int) / 4096 % 64).toNat, UInt8.ofNat (128 + (p : Int) / 64 % 64).toNat] (by omega) (by omega) e
theorem last_or {α : Type} (l : List α) : l = [] ∨ ∃ m b, l = m ++ [b] := by
  rcases List.eq_nil_or_concat l with h | ⟨m, b, h⟩
  · exact .inl h
  · exact .inr ⟨m, b, by rw [h, List.concat_eq_append]⟩
theorem points_unblank {s : List UInt8} {d : List Nat} (h : points (s ++ [32]) = some d) : ∃ d', points s = some d' := by
  have h1 := encS_points h
  have hsc := points_sc h
  rcases last_or d with rfl | ⟨d', p, rfl⟩
  · simp [encS_nil] at h1
  · rw [encS_app, encS_one] at h1
    have hp : scalarB (p : Int) = true := hsc p (by simp)
    rcases last_or (encL (p : Int)) with e | ⟨l, b, e⟩
    · have := (encL_len (p : Int)).1
      rw [e] at this
      simp at this
    · rw [e, ← List.append_assoc] at h1
      have h2 := List.append_inj' h1 rfl
      obtain ⟨h3, h4⟩ := h2
      injection h4 with h4 _
      subst h4
      obtain ⟨rfl, rfl⟩ := encL_last hp e
      rw [List.append_nil] at h3
      exact ⟨d', by rw [← h3]; exact points_encS fun q hq => hsc q (by simp [hq])⟩
theorem clus_blank (d : List Nat) : (clus (d ++ [32])) = clus d ++ [[32]] := by
  rw [clus_app d [32] (fun p t e => by injection e with e _; rw [← e]; exact mk_blank)]
  rfl
theorem wid_blank (s : List UInt8) : wid (s ++ [32]) = wid s + 1 := by
  unfold wid
  cases h : points s with
  | some d => rw [points_blank h]; simp [clus_blank]
  | none =>
    cases h2 : points (s ++ [32]) with
    | none => simp
    | some d =>
      obtain ⟨d', h3⟩ := points_unblank h2
      rw [h] at h3
      cases h3
theorem wid_sp (s : List UInt8) (n : Nat) : wid (s ++ sp n) = wid s + n := by
  induction n with
  | zero => simp [sp_zero]
  | succ n ih => rw [sp_snoc, ← List.append_assoc, wid_blank, ih]; omega
theorem pad_len (s : List UInt8) (n : Int) : (pad s n).length ≤ s.length + 4000 := by
  unfold pad
  split
  · rw [List.length_append, sp_len]; omega
  · omega
theorem pad_wid {s : List UInt8} {n : Int} (h : (wid s : Int) ≤ n) (h2 : n ≤ 4000) : (wid (pad s n) : Int) = n := by
  unfold pad
  split
  · rw [wid_sp]; omega
  · omega
theorem pad_id {s : List UInt8} {n : Int} (h : 4000 < n ∨ n ≤ wid s) : pad s n = s := by
  unfold pad
  rw [if_neg (by omega)]
end Go.Proofs.YtdpllfgnppeneaaGreatDoor.Lay

/-
  PLAIN LAW of the chapter on concordances: texts joined by blanks, and the lines. No program in sight.
-/
set_option linter.unusedVariables false
set_option linter.unusedSimpArgs false
namespace Go.Proofs.YtdpllfgnppeneaaGreatDoor.Lay
open Go.Proofs.YtdpllfgnppeneaaGreatDoor Go.Proofs.YtdpllfgnppeneaaGreatDoor.Ru

/-- The first i strings, joined by blanks. -/
def joinK (l : List ByteArray) : Nat → List UInt8
  | 0 => []
  | i + 1 => joinK l i ++ (if 0 < i then [32] else []) ++ (cellB l i).data.toList
def joinB (l : List ByteArray) : List UInt8 := joinK l l.length
/-- A line of a concordance. -/
structure Ht where
  rid : Int
  nid : Int
  left : List ByteArray
  key : ByteArray
  right : List ByteArray
def leftW (h : Ht) : Nat := wid (joinB h.left)
/-- The greatest width of the left contexts of the first i lines. -/
def mostK (l : List Ht) : Nat → Nat
  | 0 => 0
  | i + 1 => max (mostK l i) (match l[i]? with | none => 0 | some h => leftW h)
def tailL (h : Ht) : List UInt8 := [32, 91] ++ h.key.data.toList ++ [93] ++ (if h.right = [] then [] else [32] ++ joinB h.right)
def lineH (n : Nat) (h : Ht) : List UInt8 := sp (n - leftW h) ++ joinB h.left ++ tailL h
def linesL (l : List Ht) : List ByteArray := l.map fun h => strL (lineH (mostK l l.length) h)
theorem mostK_succ {l : List Ht} {i : Nat} {h : Ht} (hi : l[i]? = some h) : mostK l (i + 1) = max (mostK l i) (leftW h) := by
  show max _ (match l[i]? with | none => 0 | some h => leftW h) = _
  rw [hi]
theorem mostK_le {l : List Ht} : ∀ {i j : Nat}, i ≤ j → mostK l i ≤ mostK l j
  | i, 0, h => by obtain rfl : i = 0 := by omega
                  exact Nat.le_refl _
  | i, j + 1, h => by
    by_cases e : i = j + 1
    · subst e; exact Nat.le_refl _
    · exact Nat.le_trans (mostK_le (i := i) (j := j) (by omega)) (Nat.le_max_left _ _)
theorem leftW_le {l : List Ht} {i : Nat} {h : Ht} (hi : l[i]? = some h) : leftW h ≤ mostK l l.length := by
  have hlt := (List.getElem?_eq_some_iff.1 hi).1
  refine Nat.le_trans ?_ (mostK_le (i := i + 1) (j := l.length) hlt)
  rw [mostK_succ hi]
  exact Nat.le_max_right _ _
theorem joinK_len {l : List ByteArray} {m : Nat} (h : ∀ s ∈ l, s.size ≤ m) : ∀ i, (joinK l i).length ≤ i * (m + 1)
  | 0 => Nat.zero_le _
  | i + 1 => by
    have ih := joinK_len h i
    show (joinK l i ++ (if 0 < i then [32] else []) ++ (cellB l i).data.toList).length ≤ _
    rw [List.length_append, List.length_append, ← Lib.size_eq]
    have h1 : (if 0 < i then [32] else [] : List UInt8).length ≤ 1 := by split <;> simp
    have h2 : (cellB l i).size ≤ m := by
      cases hk : l[i]? with
      | none => rw [cellB_none (by rw [List.getElem?_eq_none_iff] at hk; exact hk)]; exact Nat.zero_le _
      | some s => rw [cellB_some hk]; exact h s (List.mem_of_getElem? hk)
    rw [Nat.add_mul]
    omega
theorem mostK_small {l : List Ht} {m : Nat} (h : ∀ x ∈ l, leftW x ≤ m) : ∀ i, mostK l i ≤ m
  | 0 => Nat.zero_le _
  | i + 1 => by
    have ih := mostK_small h i
    show max _ (match l[i]? with | none => 0 | some h => leftW h) ≤ _
    cases hi : l[i]? with
    | none => exact Nat.max_le.2 ⟨ih, Nat.zero_le _⟩
    | some x => exact Nat.max_le.2 ⟨ih, h x (List.mem_of_getElem? hi)⟩
theorem sp_cons (n : Nat) (l : List UInt8) : [32] ++ (sp n ++ l) = sp (n + 1) ++ l := by rw [sp_succ]; rfl
/-- Blanks in front of a string that begins with no mark. -/
theorem wid_front {s : List UInt8} {d : List Nat} (h : points s = some d) (hf : Fresh d) (n : Nat) : wid (sp n ++ s) = n + wid s := by
  induction n with
  | zero => simp [sp_zero]
  | succ n ih =>
    have hp : ∀ k, ∃ e, points (sp k ++ s) = some e ∧ Fresh e := by
      intro k
      induction k with
      | zero => exact ⟨d, by simpa [sp_zero] using h, hf⟩
      | succ k ihk =>
        obtain ⟨e, he, _⟩ := ihk
        refine ⟨32 :: e, ?_, fun p t hq => by injection hq with h1 _; rw [← h1]; exact mk_blank⟩
        have h1 := points_app sc_blank (sp k ++ s)
        rw [encS_one, encL_blank, he] at h1
        rw [← sp_cons]
        exact h1
    obtain ⟨e, he, hfe⟩ := hp n
    have h1 := points_app sc_blank (sp n ++ s)
    rw [encS_one, encL_blank, he] at h1
    have h1' : points ([32] ++ (sp n ++ s)) = some ([32] ++ e) := h1
    have h2 : wid (sp (n + 1) ++ s) = (clus ([32] ++ e)).length := by
      rw [← sp_cons]
      unfold wid
      rw [h1']
    have h3 : wid (sp n ++ s) = (clus e).length := by unfold wid; rw [he]
    rw [h2, clus_app [32] e hfe, List.length_append, ← h3, ih]
    show 1 + _ = _
    omega
end Go.Proofs.YtdpllfgnppeneaaGreatDoor.Lay

/-
  PLAIN LAW of the chapter on runes: the library's decoder and the reference's. No program in sight.
-/
set_option linter.unusedVariables false
set_option linter.unusedSimpArgs false
namespace Go.Proofs.YtdpllfgnppeneaaGreatDoor.Ru
open Go.Lib

theorem enc_same {p : Nat} (h : scalarB (p : Int) = true) : encodeRuneZ (p : Int) = encI (p : Int) := by
  have hs := scalar_iff.1 h
  unfold encI
  by_cases h1 : p < 128
  · rw [if_pos (by omega), encodeRuneZ_one (by omega) (by omega)]
  · by_cases h2 : p < 2048
    · rw [if_neg (by omega), if_pos (by omega), encodeRuneZ_two (by omega) (by omega)]
    · by_cases h3 : p < 65536
      · rw [if_neg (by omega), if_neg (by omega), if_pos (by omega), encodeRuneZ_three (by omega)]
      · rw [if_neg (by omega), if_neg (by omega), if_neg (by omega), encodeRuneZ_four (by omega) (by omega)]
theorem encodeRune_same {p : Nat} (h : scalarB (p : Int) = true) : encodeRune (p : Int) = encL (p : Int) := by
  unfold encodeRune encL
  rw [enc_same h]
theorem runeCells_same {p : Nat} (h : scalarB (p : Int) = true) : runeCells (p : Int) = (encI (p : Int)).map fun x => Value.int .u8 x := by
  unfold runeCells
  rw [enc_same h]
set_option maxRecDepth 100000 in
theorem decodeN_scalar {n b0 b1 b2 b3 : Nat} (h : ¬ ((decodeN n b0 b1 b2 b3).1 = 65533 ∧ (decodeN n b0 b1 b2 b3).2 = 1)) : scalarB ((decodeN n b0 b1 b2 b3).1 : Int) = true := by
  rw [scalar_iff]
  unfold decodeN at h ⊢
  split
  · simp only; omega
  · rename_i h0
    rw [if_neg h0] at h
    split
    · rename_i h1
      rw [if_pos h1] at h
      split
      · simp only; omega
      · rename_i h2; rw [if_neg h2] at h; exact absurd ⟨rfl, rfl⟩ h
    · rename_i h1
      rw [if_neg h1] at h
      split
      · rename_i h2
        rw [if_pos h2] at h
        split
        · rename_i h3; simp only; omega
        · rename_i h3; rw [if_neg h3] at h; exact absurd ⟨rfl, rfl⟩ h
      · rename_i h2
        rw [if_neg h2] at h
        split
        · rename_i h3
          rw [if_pos h3] at h
          split
          · rename_i h4; simp only; omega
          · rename_i h4; rw [if_neg h4] at h; exact absurd ⟨rfl, rfl⟩ h
        · rename_i h3; rw [if_neg h3] at h; exact absurd ⟨rfl, rfl⟩ h
/-- The decoder finds a rune: so does the reference. -/
theorem first_of_decode {l : List UInt8} (hne : l ≠ []) (h : ¬ ((decodeL l).1 = 65533 ∧ (decodeL l).2 = 1)) : firstL l = some ((decodeL l).1, (decodeL l).2) := by
  have hsc : scalarB ((decodeL l).1 : Int) = true := by
    rw [decodeL_N] at h ⊢
    exact decodeN_scalar h
  have he := encode_decode l hne h
  rw [encodeRune_same hsc] at he
  have hl : (encL ((decodeL l).1 : Int)).length = (decodeL l).2 := by
    rw [he, List.length_take]
    have := decodeL_le l hne
    omega
  have h1 := first_enc hsc (l.drop (decodeL l).2)
  rw [hl] at h1
  rwa [he, List.take_append_drop] at h1
set_option maxRecDepth 100000 in
theorem decode_enc {p : Nat} (h : scalarB (p : Int) = true) (rest : List UInt8) : decodeL (encL (p : Int) ++ rest) = (p, (encL (p : Int)).length) := by
  have hs := scalar_iff.1 h
  rw [decodeL_N]
  by_cases h1 : p < 128
  · have e : encL (p : Int) = [UInt8.ofNat p] := by unfold encL encI; rw [if_pos (by omega)]; simp
    rw [e]
    simp only [List.cons_append, List.nil_append, List.getD_cons_zero, u8_nat (by omega : p < 256)]
    unfold decodeN
    rw [if_pos (by omega)]
    rfl
  · by_cases h2 : p < 2048
    · have e : encL (p : Int) = [UInt8.ofNat (192 + p / 64), UInt8.ofNat (128 + p % 64)] := by
        unfold encL encI
        rw [if_neg (by omega), if_pos (by omega)]
        simp only [List.map_cons, List.map_nil]
        rw [show (192 + (p : Int) / 64).toNat = 192 + p / 64 by omega, show (128 + (p : Int) % 64).toNat = 128 + p % 64 by omega]
      rw [e]
      simp only [List.cons_append, List.nil_append, List.getD_cons_zero, List.getD_cons_succ, List.length_cons, u8_nat (by omega : 192 + p / 64 < 256), u8_nat (by omega : 128 + p % 64 < 256)]
      unfold decodeN
      rw [if_neg (by omega), if_pos (by omega), if_pos (by omega)]
      refine Prod.ext ?_ ?_
      · show (192 + p / 64) % 32 * 64 + (128 + p % 64) % 64 = p
        omega
      · rfl
    · by_cases h3 : p < 65536
      · have e : encL (p : Int) = [UInt8.ofNat (224 + p / 4096), UInt8.ofNat (128 + p / 64 % 64), UInt8.ofNat (128 + p % 64)] := by
          unfold encL encI
          rw [if_neg (by omega), if_neg (by omega), if_pos (by omega)]
          simp only [List.map_cons, List.map_nil]
          rw [show (224 + (p : Int) / 4096).toNat = 224 + p / 4096 by omega, show (128 + (p : Int) / 64 % 64).toNat = 128 + p / 64 % 64 by omega, show (128 + (p : Int) % 64).toNat = 128 + p % 64 by omega]
        rw [e]
        simp only [List.cons_append, List.nil_append, List.getD_cons_zero, List.getD_cons_succ, List.length_cons, u8_nat (by omega : 224 + p / 4096 < 256), u8_nat (by omega : 128 + p / 64 % 64 < 256), u8_nat (by omega : 128 + p % 64 < 256)]
        unfold decodeN
        rw [if_neg (by omega), if_neg (by omega), if_pos (by omega)]
        have ec : (224 + p / 4096) % 16 * 4096 + (128 + p / 64 % 64) % 64 * 64 + (128 + p % 64) % 64 = p := by omega
        rw [ec, if_pos (by omega)]
        rfl
      · have e : encL (p : Int) = [UInt8.ofNat (240 + p / 262144), UInt8.ofNat (128 + p / 4096 % 64), UInt8.ofNat (128 + p / 64 % 64), UInt8.ofNat (128 + p % 64)] := by
          unfold encL encI
          rw [if_neg (by omega), if_neg (by omega), if_neg (by omega)]
          simp only [List.map_cons, List.map_nil]
          rw [show (240 + (p : Int) / 262144).toNat = 240 + p / 262144 by omega, show (128 + (p : Int) / 4096 % 64).toNat = 128 + p / 4096 % 64 by omega, show (128 + (p : Int) / 64 % 64).toNat = 128 + p / 64 % 64 by omega, show (128 + (p : Int) % 64).toNat = 128 + p % 64 by omega]
        rw [e]
        simp only [List.cons_append, List.nil_append, List.getD_cons_zero, List.getD_cons_succ, List.length_cons, u8_nat (by omega : 240 + p / 262144 < 256), u8_nat (by omega : 128 + p / 4096 % 64 < 256), u8_nat (by omega : 128 + p / 64 % 64 < 256), u8_nat (by omega : 128 + p % 64 < 256)]
        unfold decodeN
        rw [if_neg (by omega), if_neg (by omega), if_neg (by omega), if_pos (by omega)]
        have ec : (240 + p / 262144) % 8 * 262144 + (128 + p / 4096 % 64) % 64 * 4096 + (128 + p / 64 % 64) % 64 * 64 + (128 + p % 64) % 64 = p := by omega
        rw [ec, if_pos (by omega)]
        rfl
/-- The reference finds a point: so does the decoder. -/
theorem decode_of_first {l : List UInt8} {p n : Nat} (h : firstL l = some (p, n)) : decodeL l = (p, n) ∧ ¬ (p = 65533 ∧ n = 1) := by
  obtain ⟨f1, f2, f3, f4, f5⟩ := firstL_some h
  have hl : (encL (p : Int)).length = n := by rw [f5, List.length_take]; omega
  have h1 := decode_enc f4 (l.drop n)
  rw [hl, f5, List.take_append_drop] at h1
  refine ⟨h1, ?_⟩
  rintro ⟨rfl, rfl⟩
  have : (encL ((65533 : Nat) : Int)).length = 3 := by decide
  omega
/-- A string is valid just if it has points. -/
theorem valid_points : ∀ (n : Nat) (l : List UInt8), l.length ≤ n → validGoD n l = (points l).isSome
  | 0, l, h => by
    have : l = [] := List.eq_nil_of_length_eq_zero (by omega)
    subst this
    rfl
  | n + 1, l, h => by
    unfold validGoD
    by_cases h0 : l = []
    · subst h0; rfl
    · rw [if_neg h0]
      by_cases he : (decodeL l).1 = 65533 ∧ (decodeL l).2 = 1
      · rw [if_pos he]
        cases hf : firstL l with
        | none => rw [points_none h0 hf]; rfl
        | some pn =>
          obtain ⟨p, m⟩ := pn
          obtain ⟨h1, h2⟩ := decode_of_first hf
          rw [h1] at he
          exact absurd he h2
      · rw [if_neg he]
        have hf := first_of_decode h0 he
        rw [points_some hf, valid_points n _ (by have := decodeL_width l; rw [List.length_drop]; omega)]
        cases points (l.drop (decodeL l).2) <;> rfl
theorem validD_points (l : List UInt8) : validD l = (points l).isSome := valid_points _ l (Nat.le_refl _)
end Go.Proofs.YtdpllfgnppeneaaGreatDoor.Ru
