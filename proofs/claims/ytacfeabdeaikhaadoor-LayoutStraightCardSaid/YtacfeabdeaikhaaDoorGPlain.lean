import Derived.Test.YtacfeabdeaikhaaDoorPlainWhole
import Derived.Test.YtacfeabdeaikhaaDoorRefClus
/-
  PLAIN LAW of the chapter on layout: widths, pads, columns, groups and lines. No program in sight.
-/
set_option linter.unusedVariables false
set_option linter.unusedSimpArgs false
namespace Go.Proofs.YtacfeabdeaikhaaDoor.Lay
open Go.Proofs.YtacfeabdeaikhaaDoor Go.Proofs.YtacfeabdeaikhaaDoor.Ru

/-- The width of a string. -/
def wid (s : List UInt8) : Nat :=
  match points s with
  | none => s.length
  | some d => (clus d).length
def widB (s : ByteArray) : Nat := wid s.data.toList
/-- Blanks. -/
def sp (n : Nat) : List UInt8 := List.replicate n 32
def pad (s : List UInt8) (n : Int) : List UInt8 := if (wid s : Int) < n ∧ n ≤ 4000 then s ++ sp (n - wid s).toNat else s
def cellB (r : List ByteArray) (k : Nat) : ByteArray := r.getD k ⟨#[]⟩
/-- The number of columns. -/
def nmax : List (List ByteArray) → Nat
  | [] => 0
  | r :: t => max r.length (nmax t)
/-- The width of a column. -/
def colAt : List (List ByteArray) → Nat → Nat
  | [], _ => 0
  | r :: t, k => max (widB (cellB r k)) (colAt t k)
def cols (L : List (List ByteArray)) : List Int := (List.range (nmax L)).map fun k => (colAt L k : Int)
/-- What has been collected when the rows L and j cells of the row r are over, n columns being there. -/
def colsG (n : Nat) (L : List (List ByteArray)) (r : List ByteArray) (j : Nat) : List Int :=
  (List.range n).map fun k => if k < j then max (colAt L k : Int) (widB (cellB r k) : Int) else (colAt L k : Int)
/-- The groups of the first i columns, and the width of the last one. -/
def gst (c : List Int) (W : Int) : Nat → List (Nat × Nat) × Int
  | 0 => ([], 0)
  | i + 1 =>
    if 0 < i ∧ (gst c W i).2 ≤ W ∧ max (c.getD i 0) 0 ≤ W - (gst c W i).2 - 1 then
      ((gst c W i).1.dropLast ++ [(((gst c W i).1.getLast?.getD (0, 0)).1, i + 1)], (gst c W i).2 + 1 + max (c.getD i 0) 0)
    else ((gst c W i).1 ++ [(i, i + 1)], max (c.getD i 0) 0)
def groups (c : List Int) (W : Int) : List (Nat × Nat) := (gst c W c.length).1
/-- The first k cells of a line. -/
def lineG (c : List Int) (r : List ByteArray) : Nat → List UInt8
  | 0 => []
  | k + 1 => lineG c r k ++ (if 0 < k then [32] else []) ++ pad (cellB r k).data.toList (c.getD k 0)
def trimR (l : List UInt8) : List UInt8 := (l.reverse.dropWhile fun b => b == 32).reverse
def lineL (c : List Int) (r : List ByteArray) : ByteArray := strL (trimR (lineG c r c.length))
def alignL (L : List (List ByteArray)) : List ByteArray := L.map fun r => lineL (cols L) r
/-- The cells of the columns of one group. -/
def partP (L : List (List ByteArray)) (g : Nat × Nat) : List (List ByteArray) := L.map fun r => (r.take (min g.2 r.length)).drop (min g.1 r.length)
def partR (L : List (List ByteArray)) (g : Nat × Nat) : List (List ByteArray) := L.map fun r => (List.range (g.2 - g.1)).map fun j => cellB r (g.1 + j)
def wrapG (f : Nat × Nat → List ByteArray) (G : List (Nat × Nat)) : Nat → List ByteArray
  | 0 => []
  | i + 1 => wrapG f G i ++ (if 0 < i then [⟨#[]⟩] else []) ++ f (G.getD i (0, 0))
def wrapL (L : List (List ByteArray)) (W : Int) : List ByteArray := wrapG (fun g => alignL (partP L g)) (groups (cols L) W) (groups (cols L) W).length

theorem clus_len_le (l : List Nat) : (clus l).length ≤ l.length :=
  seg_ind (P := fun l => (clus l).length ≤ l.length) (Nat.le_refl _) (fun p ms rest hm hr ih => by
    rw [clus_seg p ms rest hm hr, List.length_cons, List.length_append, List.length_cons]
    omega) l
theorem wid_le (s : List UInt8) : wid s ≤ s.length := by
  unfold wid
  cases h : points s with
  | none => exact Nat.le_refl _
  | some d => exact Nat.le_trans (clus_len_le d) (points_length _ _ _ (Nat.le_refl _) h)
theorem wid_nil : wid [] = 0 := rfl
theorem widB_empty : widB ⟨#[]⟩ = 0 := rfl
theorem widB_le (s : ByteArray) : widB s ≤ s.size := by rw [Lib.size_eq]; exact wid_le _
theorem wid_clusB (s : List UInt8) (h : (points s).isSome = true) : wid s = (clusB s).length := by
  unfold wid clusB
  cases hp : points s with
  | none => rw [hp] at h; cases h
  | some d => simp
theorem cellB_none {r : List ByteArray} {k : Nat} (h : r.length ≤ k) : cellB r k = ⟨#[]⟩ := by
  unfold cellB
  rw [List.getD, List.getElem?_eq_none h]
  rfl
theorem cellB_some {r : List ByteArray} {k : Nat} {s : ByteArray} (h : r[k]? = some s) : cellB r k = s := by
  unfold cellB
  rw [List.getD, h]
  rfl
theorem nmax_le {L : List (List ByteArray)} {n : Nat} (h : ∀ r ∈ L, r.length ≤ n) : nmax L ≤ n := by
  induction L with
  | nil => exact Nat.zero_le _
  | cons r t ih => exact Nat.max_le.2 ⟨h r (by simp), ih fun x hx => h x (by simp [hx])⟩
theorem le_nmax {L : List (List ByteArray)} {r : List ByteArray} (h : r ∈ L) : r.length ≤ nmax L := by
  induction L with
  | nil => cases h
  | cons x t ih =>
    rcases List.mem_cons.1 h with rfl | h
    · exact Nat.le_max_left _ _
    · exact Nat.le_trans (ih h) (Nat.le_max_right _ _)
theorem colAt_big {L : List (List ByteArray)} {k : Nat} (h : nmax L ≤ k) : colAt L k = 0 := by
  induction L with
  | nil => rfl
  | cons r t ih =>
    have h1 := Nat.max_le.1 (show max r.length (nmax t) ≤ k from h)
    show max _ _ = _
    rw [ih h1.2, cellB_none h1.1, widB_empty]
    rfl
theorem nmax_snoc (L : List (List ByteArray)) (r : List ByteArray) : nmax (L ++ [r]) = max (nmax L) r.length := by
  induction L with
  | nil => show max r.length 0 = max 0 r.length; omega
  | cons x t ih =>
    show max x.length (nmax (t ++ [r])) = max (max x.length (nmax t)) r.length
    rw [ih]; omega
theorem colAt_snoc (L : List (List ByteArray)) (r : List ByteArray) (k : Nat) : colAt (L ++ [r]) k = max (colAt L k) (widB (cellB r k)) := by
  induction L with
  | nil => show max _ 0 = max 0 _; omega
  | cons x t ih =>
    show max _ (colAt (t ++ [r]) k) = max (max _ (colAt t k)) _
    rw [ih]; omega
theorem colAt_le {L : List (List ByteArray)} {k n : Nat} (h : ∀ r ∈ L, ∀ s ∈ r, s.size ≤ n) : colAt L k ≤ n := by
  induction L with
  | nil => exact Nat.zero_le _
  | cons r t ih =>
    refine Nat.max_le.2 ⟨?_, ih fun x hx => h x (by simp [hx])⟩
    refine Nat.le_trans (widB_le _) ?_
    cases hk : r[k]? with
    | none =>
      rw [cellB_none (by
        rw [List.getElem?_eq_none_iff] at hk; exact hk)]
      exact Nat.zero_le _
    | some s =>
      rw [cellB_some hk]
      exact h r (by simp) s (List.mem_of_getElem? hk)
theorem cols_len (L : List (List ByteArray)) : (cols L).length = nmax L := by unfold cols; simp
theorem cols_at {L : List (List ByteArray)} {k : Nat} (h : k < nmax L) : (cols L)[k]? = some (colAt L k : Int) := by
  unfold cols
  rw [List.getElem?_map, List.getElem?_range h]
  rfl
theorem cols_getD (L : List (List ByteArray)) (k : Nat) : (cols L).getD k 0 = (colAt L k : Int) := by
  by_cases h : k < nmax L
  · rw [List.getD, cols_at h]; rfl
  · rw [List.getD, List.getElem?_eq_none (by rw [cols_len]; omega), colAt_big (by omega)]; rfl
theorem colsG_len (n : Nat) (L : List (List ByteArray)) (r : List ByteArray) (j : Nat) : (colsG n L r j).length = n := by unfold colsG; simp
theorem colsG_at {n : Nat} {L : List (List ByteArray)} {r : List ByteArray} {j k : Nat} (h : k < n) : (colsG n L r j)[k]? = some (if k < j then max (colAt L k : Int) (widB (cellB r k) : Int) else (colAt L k : Int)) := by
  unfold colsG
  rw [List.getElem?_map, List.getElem?_range h]
  rfl
theorem colsG_zero (n : Nat) (L : List (List ByteArray)) (r : List ByteArray) : colsG n L r 0 = (List.range n).map fun k => (colAt L k : Int) := by
  unfold colsG
  refine List.map_congr_left fun k _ => ?_
  rw [if_neg (by omega)]
/-- One cell: the maximum is stored. -/
theorem colsG_set {n : Nat} {L : List (List ByteArray)} {r : List ByteArray} {j : Nat} (h : j < n) :
    (colsG n L r j).set j (max (colAt L j : Int) (widB (cellB r j) : Int)) = colsG n L r (j + 1) := by
  refine List.ext_getElem? fun k => ?_
  rw [List.getElem?_set, colsG_len]
  by_cases hk : k < n
  · rw [colsG_at hk, colsG_at hk]
    by_cases e : j = k
    · subst e
      rw [if_pos rfl, if_pos hk, if_pos (by omega)]
    · rw [if_neg e]
      by_cases h2 : k < j
      · rw [if_pos h2, if_pos (by omega)]
      · rw [if_neg h2, if_neg (by omega)]
  · rw [if_neg (by omega), List.getElem?_eq_none (by rw [colsG_len]; omega), List.getElem?_eq_none (by rw [colsG_len]; omega)]
/-- A new column begins with nothing. -/
theorem colsG_more {n : Nat} {L : List (List ByteArray)} {r : List ByteArray} {j : Nat} (h : nmax L ≤ n) (hj : j ≤ n) : colsG n L r j ++ [0] = colsG (n + 1) L r j := by
  refine List.ext_getElem? fun k => ?_
  by_cases hk : k < n
  · rw [List.getElem?_append_left (by rw [colsG_len]; exact hk), colsG_at hk, colsG_at (by omega)]
  · rw [List.getElem?_append_right (by rw [colsG_len]; omega), colsG_len]
    by_cases e : k = n
    · subst e
      rw [Nat.sub_self, colsG_at (by omega), if_neg (by omega), colAt_big h]
      rfl
    · rw [List.getElem?_eq_none (by simp; omega), List.getElem?_eq_none (by rw [colsG_len]; omega)]
theorem colsG_end {n : Nat} {L : List (List ByteArray)} {r : List ByteArray} {j : Nat} (hj : r.length ≤ j) : colsG n L r j = (List.range n).map fun k => (colAt (L ++ [r]) k : Int) := by
  unfold colsG
  refine List.map_congr_left fun k _ => ?_
  rw [colAt_snoc]
  by_cases h : k < j
  · rw [if_pos h]; omega
  · rw [if_neg h, cellB_none (by omega), widB_empty]; omega
theorem colsG_fin {L : List (List ByteArray)} {r : List ByteArray} : colsG (max (nmax L) r.length) L r r.length = cols (L ++ [r]) := by
  rw [colsG_end (Nat.le_refl _)]
  unfold cols
  rw [nmax_snoc]
theorem cols_nil : cols [] = [] := rfl

/- Widths of pads. -/
theorem sp_zero : sp 0 = [] := rfl
theorem sp_succ (n : Nat) : sp (n + 1) = 32 :: sp n := rfl
theorem sp_snoc (n : Nat) : sp (n + 1) = sp n ++ [32] := by unfold sp; exact List.replicate_succ'
theorem sp_add (a b : Nat) : sp (a + b) = sp a ++ sp b := by unfold sp; exact (List.replicate_append_replicate).symm
theorem sp_len (n : Nat) : (sp n).length = n := by unfold sp; simp
theorem encL_blank : encL ((32 : Nat) : Int) = [32] := by decide
theorem sc_blank : Sc [32] := fun p hp => by
  rw [List.mem_singleton] at hp
  subst hp
  decide
theorem mk_blank : mk 32 = false := by decide
theorem points_blank {s : List UInt8} {d : List Nat} (h : points s = some d) : points (s ++ [32]) = some (d ++ [32]) := by
  rw [← encS_points h, points_app (points_sc h)]
  have : points [32] = some [32] := by
    have h1 := points_encS sc_blank
    rw [encS_one, encL_blank] at h1
    exact h1
  rw [this]
  rfl
theorem encL_last {p : Nat} (h : scalarB (p : Int) = true) {l : List UInt8} (e : encL (p : Int) = l ++ [32]) : p = 32 ∧ l = [] := by
  have hs := scalar_iff.1 h
  unfold encL encI at e
  have key : ∀ (x : Int) (a : List UInt8), 128 ≤ x → x < 256 → a ++ [UInt8.ofNat x.toNat] = l ++ [32] → False := fun x a h1 h2 he => by
    have h3 := (List.append_inj' he rfl).2
    injection h3 with h3 _
    have h4 := congrArg UInt8.toNat h3
    rw [u8_nat (by omega)] at h4
    have h5 : (32 : UInt8).toNat = 32 := rfl
    omega
  split at e
  · have h3 := List.append_inj' (show ([] : List UInt8) ++ [UInt8.ofNat (p : Int).toNat] = l ++ [32] from e) rfl
    obtain ⟨h4, h5⟩ := h3
    injection h5 with h5 _
    have h6 := congrArg UInt8.toNat h5
    rw [u8_nat (by omega)] at h6
    have h7 : (32 : UInt8).toNat = 32 := rfl
    exact ⟨by omega, h4.symm⟩
  · exfalso
    split at e
    · exact key (128 + (p : Int) % 64) [UInt8.ofNat (192 + (p : Int) / 64).toNat] (by omega) (by omega) e
    · split at e
      · exact key (128 + (p : Int) % 64) [UInt8.ofNat (224 + (p : Int) / 4096).toNat, UInt8.ofNat (128 + (p : Int) / 64 % 64).toNat] (by omega) (by omega) e
      · exact key (128 + (p : Int) % 64) [UInt8.ofNat (240 + (p : Int) / 262144).toNat, UInt8.ofNat (128 + (p : Int) / 4096 % 64).toNat, UInt8.ofNat (128 + (p : Int) / 64 % 64).toNat] (by omega) (by omega) e
theorem last_or {α : Type} (l : List α) : l = [] ∨ ∃ m b, l = m ++ [b] := by
  rcases List.eq_nil_or_concat l with h | ⟨m, b, h⟩
  · exact .inl h
  · exact .inr ⟨m, b, by rw [h, List.concat_eq_append]⟩
theorem points_unblank {s : List UInt8} {d : List Nat} (h : points (s ++ [32]) = some d) : ∃ d', points s = some d' := by
  have h1 := encS_points h
  have hsc := points_sc h
  rcases last_or d with rfl | ⟨d', p, rfl⟩
  · simp [encS_nil] at h1
  · rw [encS_app, encS_one] at h1
    have hp : scalarB (p : Int) = true := hsc p (by simp)
    rcases last_or (encL (p : Int)) with e | ⟨l, b, e⟩
    · have := (encL_len (p : Int)).1
      rw [e] at this
      simp at this
    · rw [e, ← List.append_assoc] at h1
      have h2 := List.append_inj' h1 rfl
      obtain ⟨h3, h4⟩ := h2
      injection h4 with h4 _
      subst h4
      obtain ⟨rfl, rfl⟩ := encL_last hp e
      rw [List.append_nil] at h3
      exact ⟨d', by rw [← h3]; exact points_encS fun q hq => hsc q (by simp [hq])⟩
theorem clus_blank (d : List Nat) : (clus (d ++ [32])) = clus d ++ [[32]] := by
  rw [clus_app d [32] (fun p t e => by injection e with e _; rw [← e]; exact mk_blank)]
  rfl
theorem wid_blank (s : List UInt8) : wid (s ++ [32]) = wid s + 1 := by
  unfold wid
  cases h : points s with
  | some d => rw [points_blank h]; simp [clus_blank]
  | none =>
    cases h2 : points (s ++ [32]) with
    | none => simp
    | some d =>
      obtain ⟨d', h3⟩ := points_unblank h2
      rw [h] at h3
      cases h3
theorem wid_sp (s : List UInt8) (n : Nat) : wid (s ++ sp n) = wid s + n := by
  induction n with
  | zero => simp [sp_zero]
  | succ n ih => rw [sp_snoc, ← List.append_assoc, wid_blank, ih]; omega
theorem pad_len (s : List UInt8) (n : Int) : (pad s n).length ≤ s.length + 4000 := by
  unfold pad
  split
  · rw [List.length_append, sp_len]; omega
  · omega
theorem pad_wid {s : List UInt8} {n : Int} (h : (wid s : Int) ≤ n) (h2 : n ≤ 4000) : (wid (pad s n) : Int) = n := by
  unfold pad
  split
  · rw [wid_sp]; omega
  · omega
theorem pad_id {s : List UInt8} {n : Int} (h : 4000 < n ∨ n ≤ wid s) : pad s n = s := by
  unfold pad
  rw [if_neg (by omega)]
end Go.Proofs.YtacfeabdeaikhaaDoor.Lay

/-
  PLAIN LAW of the chapter on layout: groups of columns, and the lines of all groups. No program in sight.
-/
set_option linter.unusedVariables false
set_option linter.unusedSimpArgs false
namespace Go.Proofs.YtacfeabdeaikhaaDoor.Lay
open Go.Proofs.YtacfeabdeaikhaaDoor Go.Proofs.YtacfeabdeaikhaaDoor.Ru

def Fit (c : List Int) (W : Int) (i : Nat) : Prop := 0 < i ∧ (gst c W i).2 ≤ W ∧ max (c.getD i 0) 0 ≤ W - (gst c W i).2 - 1
theorem gst_no {c : List Int} {W : Int} {i : Nat} (h : ¬ Fit c W i) : gst c W (i + 1) = ((gst c W i).1 ++ [(i, i + 1)], max (c.getD i 0) 0) := by
  exact if_neg h
theorem gst_yes {c : List Int} {W : Int} {i f e : Nat} {done : List (Nat × Nat)} (h : Fit c W i) (hg : (gst c W i).1 = done ++ [(f, e)]) :
    gst c W (i + 1) = (done ++ [(f, i + 1)], (gst c W i).2 + 1 + max (c.getD i 0) 0) := by
  refine (if_pos h).trans ?_
  rw [hg]
  simp
theorem gst_last {c : List Int} {W : Int} : ∀ i, 0 < i → ∃ done f, (gst c W i).1 = done ++ [(f, i)] ∧ f < i
  | 0, h => by omega
  | i + 1, _ => by
    by_cases h : Fit c W i
    · obtain ⟨done, f, hg, hf⟩ := gst_last i h.1
      exact ⟨done, f, by rw [gst_yes h hg], by omega⟩
    · exact ⟨_, i, by rw [gst_no h], by omega⟩
theorem gst_rng {c : List Int} {W M : Int} (hc : ∀ x ∈ c, x ≤ M) (hW : W ≤ M) (hM : 0 ≤ M) : ∀ i, 0 ≤ (gst c W i).2 ∧ (gst c W i).2 ≤ M
  | 0 => ⟨Int.le_refl _, hM⟩
  | i + 1 => by
    have ih := gst_rng hc hW hM i
    by_cases h : Fit c W i
    · obtain ⟨done, f, hg, hf⟩ := gst_last (c := c) (W := W) i h.1
      rw [gst_yes h hg]
      have h3 := h.2.2
      have h4 : 0 ≤ max (c.getD i 0) 0 := Int.le_max_right _ _
      constructor
      · show 0 ≤ (gst c W i).2 + 1 + _; omega
      · show (gst c W i).2 + 1 + _ ≤ M; omega
    · rw [gst_no h]
      refine ⟨Int.le_max_right _ _, ?_⟩
      show max (c.getD i 0) 0 ≤ M
      cases hi : c[i]? with
      | none => rw [List.getD, hi]; exact Int.max_le.2 ⟨hM, hM⟩
      | some x => rw [List.getD, hi]; exact Int.max_le.2 ⟨hc x (List.mem_of_getElem? hi), hM⟩
theorem gst_len {c : List Int} {W : Int} : ∀ i, (gst c W i).1.length ≤ i
  | 0 => Nat.le_refl _
  | i + 1 => by
    have ih := gst_len (c := c) (W := W) i
    by_cases h : Fit c W i
    · obtain ⟨done, f, hg, hf⟩ := gst_last (c := c) (W := W) i h.1
      rw [gst_yes h hg]
      rw [hg] at ih
      simp at ih ⊢
      omega
    · rw [gst_no h]
      simp
      omega
/-- The width of the n + 1 columns from f on. -/
def seg (c : List Int) (f : Nat) : Nat → Int
  | 0 => max (c.getD f 0) 0
  | n + 1 => seg c f n + 1 + max (c.getD (f + n + 1) 0) 0
theorem seg_mono (c : List Int) (f : Nat) (n : Nat) : 0 ≤ seg c f n ∧ seg c f n + 1 ≤ seg c f (n + 1) := by
  have h : 0 ≤ seg c f n := by
    induction n with
    | zero => exact Int.le_max_right _ _
    | succ n ih =>
      have : 0 ≤ max (c.getD (f + n + 1) 0) 0 := Int.le_max_right _ _
      show 0 ≤ seg c f n + 1 + _
      omega
  refine ⟨h, ?_⟩
  have : 0 ≤ max (c.getD (f + n + 1) 0) 0 := Int.le_max_right _ _
  show _ ≤ seg c f n + 1 + _
  omega
theorem seg_le (c : List Int) (f : Nat) {n m : Nat} (h : n ≤ m) : seg c f n ≤ seg c f m := by
  induction m with
  | zero => obtain rfl : n = 0 := by omega
            exact Int.le_refl _
  | succ m ih =>
    by_cases e : n = m + 1
    · subst e; exact Int.le_refl _
    · have := ih (by omega)
      have := (seg_mono c f m).2
      omega
/-- Where group j begins. -/
def startOf (l : List (Nat × Nat)) : Nat → Nat
  | 0 => 0
  | j + 1 => (l.getD j (0, 0)).2
/-- What holds of the groups of the first i columns. -/
structure GOk (c : List Int) (W : Int) (i : Nat) (l : List (Nat × Nat)) (u : Int) : Prop where
  each : ∀ j f e, l[j]? = some (f, e) → f < e ∧ e ≤ i ∧ f = startOf l j ∧ (1 < e - f → seg c f (e - f - 1) ≤ W) ∧ (j + 1 < l.length → ¬ (seg c f (e - f - 1) + 1 + max (c.getD e 0) 0 ≤ W))
  last : startOf l l.length = i
  wide : ∀ f e, l.getLast? = some (f, e) → u = seg c f (e - f - 1)
  none_ : l = [] → i = 0
theorem getD_of_some {α : Type} {l : List α} {j : Nat} {x d : α} (h : l[j]? = some x) : l.getD j d = x := by rw [List.getD, h]; rfl
theorem startOf_app {l m : List (Nat × Nat)} {j : Nat} (h : j ≤ l.length) : startOf (l ++ m) j = startOf l j := by
  cases j with
  | zero => rfl
  | succ j =>
    show ((l ++ m).getD j (0, 0)).2 = (l.getD j (0, 0)).2
    rw [List.getD, List.getD, List.getElem?_append_left (by omega)]
theorem gst_ok (c : List Int) (W : Int) : ∀ i, GOk c W i (gst c W i).1 (gst c W i).2
  | 0 => ⟨fun j f e h => by simp [gst] at h, rfl, fun f e h => by simp [gst] at h, fun _ => rfl⟩
  | i + 1 => by
    have ih := gst_ok c W i
    by_cases h : Fit c W i
    · obtain ⟨done, f, hg, hf⟩ := gst_last (c := c) (W := W) i h.1
      have hu := ih.wide f i (by rw [hg]; simp)
      rw [hg] at ih
      have hlast := ih.each done.length f i (by simp)
      rw [gst_yes h hg]
      have hseg : (gst c W i).2 + 1 + max (c.getD i 0) 0 = seg c f (i + 1 - f - 1) := by
        rw [hu, show i + 1 - f - 1 = (i - f - 1) + 1 by omega]
        show _ = seg c f (i - f - 1) + 1 + max (c.getD (f + (i - f - 1) + 1) 0) 0
        rw [show f + (i - f - 1) + 1 = i by omega]
      refine ⟨fun j f' e hj => ?_, ?_, fun f' e hl => ?_, fun h0 => by simp at h0⟩
      · by_cases hjd : j < done.length
        · rw [List.getElem?_append_left hjd] at hj
          obtain ⟨a1, a2, a3, a4, a5⟩ := ih.each j f' e (by rw [List.getElem?_append_left hjd]; exact hj)
          refine ⟨a1, by omega, ?_, a4, fun _ => a5 (by simp; omega)⟩
          rw [startOf_app (by omega)]
          rw [startOf_app (by omega)] at a3
          exact a3
        · rw [List.getElem?_append_right (by omega)] at hj
          have hj0 : j - done.length = 0 := by
            have := (List.getElem?_eq_some_iff.1 hj).1
            simp at this
            omega
          rw [hj0] at hj
          simp at hj
          obtain ⟨rfl, rfl⟩ := hj
          obtain rfl : j = done.length := by omega
          refine ⟨by omega, Nat.le_refl _, ?_, fun _ => ?_, fun hlt => by simp at hlt⟩
          · have := hlast.2.2.1
            rw [startOf_app (Nat.le_refl _)] at this ⊢
            exact this
          · rw [← hseg]
            have := h.2.2
            omega
      · rw [List.length_append]
        show (((done ++ [(f, i + 1)]).getD done.length (0, 0))).2 = _
        rw [getD_of_some (x := (f, i + 1)) (by simp)]
      · rw [List.getLast?_append] at hl
        simp at hl
        obtain ⟨rfl, rfl⟩ := hl
        exact hseg
    · rw [gst_no h]
      refine ⟨fun j f' e hj => ?_, ?_, fun f' e hl => ?_, fun h0 => by simp at h0⟩
      · by_cases hjd : j < (gst c W i).1.length
        · rw [List.getElem?_append_left hjd] at hj
          obtain ⟨a1, a2, a3, a4, a5⟩ := ih.each j f' e hj
          refine ⟨a1, by omega, by rw [startOf_app (by omega)]; exact a3, a4, fun hlt => ?_⟩
          by_cases hj1 : j + 1 < (gst c W i).1.length
          · exact a5 hj1
          · have hlst : (gst c W i).1.getLast? = some (f', e) := by
              rw [List.getLast?_eq_getElem?, show (gst c W i).1.length - 1 = j by omega]
              exact hj
            have hi0 : 0 < i := by omega
            obtain ⟨done, f, hg, hf⟩ := gst_last (c := c) (W := W) i hi0
            have he : e = i := by
              rw [hg] at hlst
              simp at hlst
              omega
            subst he
            rw [← ih.wide f' e hlst]
            intro hle
            refine h ⟨hi0, ?_, ?_⟩
            · have : 0 ≤ max (c.getD e 0) 0 := Int.le_max_right _ _
              omega
            · omega
        · rw [List.getElem?_append_right (by omega)] at hj
          have hj0 : j - (gst c W i).1.length = 0 := by
            have := (List.getElem?_eq_some_iff.1 hj).1
            simp at this
            omega
          rw [hj0] at hj
          simp at hj
          obtain ⟨rfl, rfl⟩ := hj
          obtain rfl : j = (gst c W i).1.length := by omega
          refine ⟨by omega, Nat.le_refl _, ?_, fun hgt => by omega, fun hlt => by simp at hlt⟩
          rw [startOf_app (Nat.le_refl _)]
          exact ih.last.symm
      · rw [List.length_append]
        show ((((gst c W i).1 ++ [(i, i + 1)]).getD (gst c W i).1.length (0, 0))).2 = _
        rw [getD_of_some (x := (i, i + 1)) (by simp)]
      · rw [List.getLast?_append] at hl
        simp at hl
        obtain ⟨rfl, rfl⟩ := hl
        rw [show i + 1 - i - 1 = 0 by omega]
        rfl
theorem groups_ok (c : List Int) (W : Int) : GOk c W c.length (groups c W) (gst c W c.length).2 := gst_ok c W c.length
/-- All columns fit: one group. -/
theorem gst_all {c : List Int} {W : Int} {m : Nat} (h : seg c 0 m ≤ W) : ∀ i, i ≤ m → gst c W (i + 1) = ([(0, i + 1)], seg c 0 i)
  | 0, _ => by
    rw [gst_no (fun hf => by have := hf.1; omega)]
    rfl
  | i + 1, hi => by
    have ih := gst_all h i (by omega)
    have hm := seg_mono c 0 i
    have hs : seg c 0 (i + 1) ≤ W := Int.le_trans (seg_le c 0 hi) h
    have e : seg c 0 (i + 1) = seg c 0 i + 1 + max (c.getD (i + 1) 0) 0 := by
      show seg c 0 i + 1 + max (c.getD (0 + i + 1) 0) 0 = _
      rw [Nat.zero_add]
    have hf : Fit c W (i + 1) := ⟨by omega, by rw [ih]; show seg c 0 i ≤ W; omega, by rw [ih]; show _ ≤ W - seg c 0 i - 1; omega⟩
    rw [gst_yes (done := []) (f := 0) (e := i + 1) hf (by rw [ih]; rfl), ih, e]
    rfl
theorem groups_all {c : List Int} {W : Int} (hc : 0 < c.length) (h : seg c 0 (c.length - 1) ≤ W) : groups c W = [(0, c.length)] := by
  unfold groups
  obtain ⟨m, hm⟩ : ∃ m, c.length = m + 1 := ⟨c.length - 1, by omega⟩
  rw [hm] at h ⊢
  rw [gst_all h m (Nat.le_refl _)]
theorem groups_pos {c : List Int} {W : Int} (hc : 0 < c.length) : 0 < (groups c W).length := by
  have := (groups_ok c W).none_
  cases h : groups c W with
  | nil => have := this h; omega
  | cons x t => simp
theorem groups_len (c : List Int) (W : Int) : (groups c W).length ≤ c.length := gst_len _

/- The lines of all groups. -/
theorem alignL_len (L : List (List ByteArray)) : (alignL L).length = L.length := by unfold alignL; simp
theorem wrapG_len {f : Nat × Nat → List ByteArray} {G : List (Nat × Nat)} {m : Nat} (hf : ∀ g, (f g).length = m) : ∀ i, (wrapG f G (i + 1)).length = (i + 1) * m + i
  | 0 => by simp [wrapG, hf]
  | i + 1 => by
    show (wrapG f G (i + 1) ++ (if 0 < i + 1 then [(⟨#[]⟩ : ByteArray)] else []) ++ f _).length = _
    rw [List.length_append, List.length_append, wrapG_len hf i, hf, if_pos (by omega)]
    simp [Nat.add_mul]
    omega
theorem wrapL_len {L : List (List ByteArray)} {W : Int} (h : 0 < nmax L) : (wrapL L W).length = (groups (cols L) W).length * L.length + (groups (cols L) W).length - 1 := by
  have hp := groups_pos (c := cols L) (W := W) (by rw [cols_len]; exact h)
  unfold wrapL
  obtain ⟨n, hn⟩ : ∃ n, (groups (cols L) W).length = n + 1 := ⟨(groups (cols L) W).length - 1, by omega⟩
  rw [hn, wrapG_len (m := L.length) (fun g => by rw [alignL_len]; unfold partP; simp)]
  omega
theorem wrapL_none {L : List (List ByteArray)} {W : Int} (h : nmax L = 0) : wrapL L W = [] := by
  have h1 : (cols L).length = 0 := by rw [cols_len]; exact h
  have h2 : (groups (cols L) W).length = 0 := by have := groups_len (cols L) W; omega
  unfold wrapL
  rw [h2]
  rfl
theorem partP_all {L : List (List ByteArray)} {n : Nat} (h : nmax L ≤ n) : partP L (0, n) = L := by
  unfold partP
  conv => rhs; rw [← List.map_id L]
  refine List.map_congr_left fun r hr => ?_
  have := le_nmax hr
  show (r.take (min n r.length)).drop (min 0 r.length) = r
  rw [Nat.min_eq_right (show r.length ≤ n by omega), Nat.zero_min, List.drop_zero, List.take_length]
theorem wrapL_all {L : List (List ByteArray)} {W : Int} (h : 0 < nmax L) (hs : seg (cols L) 0 (nmax L - 1) ≤ W) : wrapL L W = alignL L := by
  have hg := groups_all (c := cols L) (W := W) (by rw [cols_len]; exact h) (by rw [cols_len]; exact hs)
  unfold wrapL
  rw [hg, cols_len]
  show [] ++ (if 0 < 0 then _ else []) ++ alignL (partP L ([(0, nmax L)].getD 0 (0, 0))) = _
  rw [List.getD_cons_zero, partP_all (Nat.le_refl _)]
  simp

/- The two cuts of the rows give the same lines. -/
theorem cellB_part {r : List ByteArray} {f e k : Nat} (h : f + k < e) : cellB ((r.take (min e r.length)).drop (min f r.length)) k = cellB r (f + k) := by
  unfold cellB
  rw [List.getD, List.getD, List.getElem?_drop]
  by_cases hf : f ≤ r.length
  · rw [Nat.min_eq_left hf, List.getElem?_take]
    by_cases hl : f + k < min e r.length
    · rw [if_pos hl]
    · rw [if_neg hl, List.getElem?_eq_none (l := r) (by omega)]
  · rw [List.getElem?_eq_none (by rw [List.length_take]; omega), List.getElem?_eq_none (by omega)]
theorem colAt_map {L : List (List ByteArray)} {g h : List ByteArray → List ByteArray} {k : Nat} (hk : ∀ r ∈ L, cellB (g r) k = cellB (h r) k) : colAt (L.map g) k = colAt (L.map h) k := by
  induction L with
  | nil => rfl
  | cons r t ih =>
    show max _ (colAt (t.map g) k) = max _ (colAt (t.map h) k)
    rw [hk r (by simp), ih fun x hx => hk x (by simp [hx])]
theorem nmax_map {L : List (List ByteArray)} {g : List ByteArray → List ByteArray} {n : Nat} (h : ∀ r ∈ L, (g r).length ≤ n) (h2 : ∃ r ∈ L, (g r).length = n) : nmax (L.map g) = n := by
  refine Nat.le_antisymm (nmax_le fun r hr => ?_) ?_
  · obtain ⟨x, hx, rfl⟩ := List.mem_map.1 hr
    exact h x hx
  · obtain ⟨r, hr, e⟩ := h2
    rw [← e]
    exact le_nmax (List.mem_map.2 ⟨r, hr, rfl⟩)
theorem nmax_some {L : List (List ByteArray)} (h : 0 < nmax L) : ∃ r ∈ L, r.length = nmax L := by
  induction L with
  | nil => exact absurd h (by decide)
  | cons r t ih =>
    by_cases h1 : nmax t ≤ r.length
    · refine ⟨r, by simp, ?_⟩
      show _ = max r.length (nmax t)
      omega
    · obtain ⟨x, hx, e⟩ := ih (by omega)
      refine ⟨x, by simp [hx], ?_⟩
      show _ = max r.length (nmax t)
      omega
theorem lineG_congr {c : List Int} {r s : List ByteArray} : ∀ n, (∀ k, k < n → cellB r k = cellB s k) → lineG c r n = lineG c s n
  | 0, _ => rfl
  | n + 1, h => by
    show lineG c r n ++ _ ++ pad (cellB r n).data.toList _ = lineG c s n ++ _ ++ pad (cellB s n).data.toList _
    rw [lineG_congr n fun k hk => h k (by omega), h n (by omega)]
theorem part_same {L : List (List ByteArray)} {g : Nat × Nat} (h1 : g.1 < g.2) (h2 : g.2 ≤ nmax L) : alignL (partP L g) = alignL (partR L g) := by
  have hr : ∃ r ∈ L, r.length = nmax L := nmax_some (by omega)
  have n1 : nmax (partP L g) = g.2 - g.1 := by
    refine nmax_map (fun r hr => ?_) ?_
    · rw [List.length_drop, List.length_take]
      omega
    · obtain ⟨r, hr, e⟩ := hr
      refine ⟨r, hr, ?_⟩
      rw [List.length_drop, List.length_take]
      omega
  have n2 : nmax (partR L g) = g.2 - g.1 := by
    refine nmax_map (fun r hr => by simp) ?_
    obtain ⟨r, hr, _⟩ := hr
    exact ⟨r, hr, by simp⟩
  have hcell : ∀ (r : List ByteArray) k, k < g.2 - g.1 → cellB ((r.take (min g.2 r.length)).drop (min g.1 r.length)) k = cellB ((List.range (g.2 - g.1)).map fun j => cellB r (g.1 + j)) k := fun r k hk => by
    rw [cellB_part (by omega)]
    refine (cellB_some ?_).symm
    rw [List.getElem?_map, List.getElem?_range hk]
    rfl
  have hcols : cols (partP L g) = cols (partR L g) := by
    unfold cols
    rw [n1, n2]
    refine List.map_congr_left fun k hk => ?_
    rw [List.mem_range] at hk
    unfold partP partR
    rw [colAt_map fun r _ => hcell r k hk]
  unfold alignL
  rw [hcols]
  unfold partP partR
  rw [List.map_map, List.map_map]
  refine List.map_congr_left fun r _ => ?_
  show lineL _ _ = lineL _ _
  unfold lineL
  rw [lineG_congr]
  intro k hk
  refine hcell r k ?_
  have h3 := cols_len (partR L g)
  have h4 : (cols (L.map fun r => (List.range (g.2 - g.1)).map fun j => cellB r (g.1 + j))).length = nmax (partR L g) := h3
  rw [h4, n2] at hk
  exact hk
theorem wrapG_congr {f h : Nat × Nat → List ByteArray} {G : List (Nat × Nat)} : ∀ n, n ≤ G.length → (∀ g ∈ G, f g = h g) → wrapG f G n = wrapG h G n
  | 0, _, _ => rfl
  | n + 1, hn, hg => by
    show wrapG f G n ++ _ ++ f _ = wrapG h G n ++ _ ++ h _
    have : G[n]? = some (G[n]'(by omega)) := List.getElem?_eq_getElem (by omega)
    rw [wrapG_congr n (by omega) hg, getD_of_some this, hg _ (List.getElem_mem _)]
theorem wrapL_ref (L : List (List ByteArray)) (W : Int) : wrapL L W = wrapG (fun g => alignL (partR L g)) (groups (cols L) W) (groups (cols L) W).length := by
  unfold wrapL
  refine wrapG_congr _ (Nat.le_refl _) fun g hg => ?_
  obtain ⟨j, hj⟩ := List.getElem?_of_mem hg
  obtain ⟨h1, h2, _⟩ := (groups_ok (cols L) W).each j g.1 g.2 hj
  rw [cols_len] at h2
  exact part_same h1 h2
end Go.Proofs.YtacfeabdeaikhaaDoor.Lay

/-
  PLAIN LAW of the chapter on layout: the clusters of a line, padded, are those of its cells, each at its place. No program in sight.
-/
set_option linter.unusedVariables false
set_option linter.unusedSimpArgs false
namespace Go.Proofs.YtacfeabdeaikhaaDoor.Lay
open Go.Proofs.YtacfeabdeaikhaaDoor Go.Proofs.YtacfeabdeaikhaaDoor.Ru

/-- A cell is valid, and begins with no mark. -/
def begB (s : ByteArray) : Bool :=
  match points s.data.toList with
  | none => false
  | some [] => true
  | some (p :: _) => !mk p
theorem begB_some {s : ByteArray} (h : begB s = true) : ∃ d, points s.data.toList = some d ∧ Fresh d := by
  unfold begB at h
  cases hp : points s.data.toList with
  | none => rw [hp] at h; cases h
  | some d =>
    rw [hp] at h
    refine ⟨d, rfl, fun p t e => ?_⟩
    subst e
    simpa using h
theorem begB_empty : begB ⟨#[]⟩ = true := rfl
def blanks (n : Nat) : List (List Nat) := List.replicate n [32]
theorem clus_blanks {s : List UInt8} {d : List Nat} (h : points s = some d) (n : Nat) : ∃ e, points (s ++ sp n) = some e ∧ clus e = clus d ++ blanks n ∧ (Fresh d → Fresh e) := by
  induction n with
  | zero => exact ⟨d, by simp [sp_zero, h], by simp [blanks], fun hf => hf⟩
  | succ n ih =>
    obtain ⟨e, h1, h2, h3⟩ := ih
    refine ⟨e ++ [32], ?_, ?_, fun hf => ?_⟩
    · rw [sp_snoc, ← List.append_assoc, points_blank h1]
    · rw [clus_blank, h2, List.append_assoc]
      congr 1
      unfold blanks
      rw [List.replicate_succ']
    · intro p t hq
      cases e with
      | nil =>
        simp at hq
        rw [← hq.1]
        exact mk_blank
      | cons x y =>
        rw [List.cons_append] at hq
        injection hq with hq _
        rw [← hq]
        exact h3 hf x y rfl
/-- The clusters of the cell k, padded. -/
def padC (c : List Int) (r : List ByteArray) (k : Nat) : List (List Nat) :=
  match points (pad (cellB r k).data.toList (c.getD k 0)) with
  | none => []
  | some d => clus d
def sepC (k : Nat) : List (List Nat) := if 0 < k then [[32]] else []
def lineC (c : List Int) (r : List ByteArray) : Nat → List (List Nat)
  | 0 => []
  | k + 1 => lineC c r k ++ sepC k ++ padC c r k
theorem pad_points {s : ByteArray} (h : begB s = true) (n : Int) : ∃ d, points (pad s.data.toList n) = some d ∧ Fresh d := by
  obtain ⟨d, h1, h2⟩ := begB_some h
  unfold pad
  split
  · obtain ⟨e, h3, _, h4⟩ := clus_blanks h1 (n - wid s.data.toList).toNat
    exact ⟨e, h3, h4 h2⟩
  · exact ⟨d, h1, h2⟩
theorem points_both {s t : List UInt8} {ds dt : List Nat} (hs : points s = some ds) (ht : points t = some dt) : points (s ++ t) = some (ds ++ dt) := by
  rw [← encS_points hs, points_app (points_sc hs), ht]
  rfl
theorem fresh_app {a b : List Nat} (ha : Fresh a) (hb : Fresh b) : Fresh (a ++ b) := by
  intro p t h
  cases a with
  | nil => exact hb p t h
  | cons x y =>
    rw [List.cons_append] at h
    injection h with h _
    rw [← h]
    exact ha x y rfl
theorem sep_points (k : Nat) : ∃ d, points (if 0 < k then [32] else []) = some d ∧ clus d = sepC k ∧ Fresh d := by
  unfold sepC
  by_cases h : 0 < k
  · rw [if_pos h, if_pos h]
    refine ⟨[32], ?_, rfl, fun p t e => by injection e with e _; rw [← e]; exact mk_blank⟩
    have h1 := points_encS sc_blank
    rw [encS_one, encL_blank] at h1
    exact h1
  · rw [if_neg h, if_neg h]
    exact ⟨[], rfl, rfl, fun p t e => by cases e⟩
theorem line_points (c : List Int) (r : List ByteArray) (h : ∀ k, begB (cellB r k) = true) : ∀ n, ∃ d, points (lineG c r n) = some d ∧ clus d = lineC c r n ∧ Fresh d
  | 0 => ⟨[], rfl, rfl, fun p t e => by cases e⟩
  | n + 1 => by
    obtain ⟨d, h1, h2, h3⟩ := line_points c r h n
    obtain ⟨s, s1, s2, s3⟩ := sep_points n
    obtain ⟨e, e1, e2⟩ := pad_points (h n) (c.getD n 0)
    have he : padC c r n = clus e := by unfold padC; rw [e1]
    refine ⟨d ++ s ++ e, points_both (points_both h1 s1) e1, ?_, fresh_app (fresh_app h3 s3) e2⟩
    rw [clus_app _ _ e2, clus_app _ _ s3, h2, s2, ← he]
    rfl
theorem beg_all {r : List ByteArray} (h : ∀ s ∈ r, begB s = true) (k : Nat) : begB (cellB r k) = true := by
  cases hk : r[k]? with
  | none => rw [cellB_none (by rw [List.getElem?_eq_none_iff] at hk; exact hk)]; exact begB_empty
  | some s => rw [cellB_some hk]; exact h s (List.mem_of_getElem? hk)
/-- Where the column k begins. -/
def fromK (c : List Int) : Nat → Int
  | 0 => 0
  | k + 1 => fromK c k + c.getD k 0 + 1
theorem padC_len {c : List Int} {r : List ByteArray} {k : Nat} (h : begB (cellB r k) = true) (h1 : (widB (cellB r k) : Int) ≤ c.getD k 0) (h2 : c.getD k 0 ≤ 4000) : ((padC c r k).length : Int) = c.getD k 0 := by
  obtain ⟨e, e1, _⟩ := pad_points h (c.getD k 0)
  have h3 := pad_wid h1 h2
  have : padC c r k = clus e := by unfold padC; rw [e1]
  rw [this]
  unfold wid at h3
  rw [e1] at h3
  exact h3
theorem lineC_len {c : List Int} {r : List ByteArray} (h : ∀ k, begB (cellB r k) = true) (h1 : ∀ k, (widB (cellB r k) : Int) ≤ c.getD k 0) (h2 : ∀ k, c.getD k 0 ≤ 4000) : ∀ k, ((lineC c r k ++ sepC k).length : Int) = fromK c k
  | 0 => rfl
  | k + 1 => by
    have ih := lineC_len h h1 h2 k
    have hp := padC_len (h k) (h1 k) (h2 k)
    show (((lineC c r k ++ sepC k ++ padC c r k) ++ sepC (k + 1)).length : Int) = fromK c k + c.getD k 0 + 1
    rw [List.length_append, List.length_append, show (sepC (k + 1)).length = 1 by unfold sepC; rw [if_pos (by omega)]; rfl]
    omega
theorem lineC_part (c : List Int) (r : List ByteArray) (k : Nat) : ∀ n, k < n → ∃ rest, lineC c r n = (lineC c r k ++ sepC k) ++ padC c r k ++ rest
  | 0, h => by omega
  | n + 1, h => by
    by_cases e : k = n
    · subst e
      exact ⟨[], by rw [List.append_nil]; rfl⟩
    · obtain ⟨rest, hr⟩ := lineC_part c r k n (by omega)
      refine ⟨rest ++ sepC n ++ padC c r n, ?_⟩
      show lineC c r n ++ sepC n ++ padC c r n = _
      rw [hr]
      simp only [List.append_assoc]
/- Blanks at the end. -/
theorem trimR_split (l : List UInt8) : ∃ m, l = trimR l ++ sp m := by
  unfold trimR
  have h1 : ∀ r : List UInt8, ∃ m, r = List.replicate m 32 ++ r.dropWhile fun b => b == 32 := by
    intro r
    induction r with
    | nil => exact ⟨0, rfl⟩
    | cons b t ih =>
      by_cases hb : (b == 32) = true
      · obtain ⟨m, hm⟩ := ih
        refine ⟨m + 1, ?_⟩
        rw [List.dropWhile_cons_of_pos (p := fun b : UInt8 => b == 32) hb, List.replicate_succ, List.cons_append, ← hm]
        rw [beq_iff_eq.1 hb]
      · exact ⟨0, by rw [List.dropWhile_cons_of_neg (p := fun b : UInt8 => b == 32) hb]; rfl⟩
  obtain ⟨m, hm⟩ := h1 l.reverse
  refine ⟨m, ?_⟩
  have h2 := congrArg List.reverse hm
  rw [List.reverse_reverse, List.reverse_append, List.reverse_replicate] at h2
  exact h2
theorem trimR_end {l : List UInt8} {b : UInt8} (h : (trimR l).getLast? = some b) : b ≠ 32 := by
  unfold trimR at h
  rw [List.getLast?_reverse] at h
  have := List.head?_dropWhile_not (fun b : UInt8 => b == 32) l.reverse
  rw [h] at this
  simpa using this
theorem trimR_len (l : List UInt8) : (trimR l).length ≤ l.length := by
  obtain ⟨m, h⟩ := trimR_split l
  have := congrArg List.length h
  rw [List.length_append] at this
  omega
theorem pad_trim {l : List UInt8} (h : wid l ≤ 4000) : pad (trimR l) 4000 = l ++ sp (4000 - wid l) := by
  obtain ⟨m, hm⟩ := trimR_split l
  have hw : wid l = wid (trimR l) + m := by conv => lhs; rw [hm, wid_sp]
  unfold pad
  by_cases hlt : (wid (trimR l) : Int) < 4000
  · rw [if_pos ⟨hlt, by omega⟩]
    conv => rhs; rw [hm]
    rw [List.append_assoc, ← sp_add, ← hm]
    congr 2
    omega
  · rw [if_neg (fun h => hlt h.1)]
    have hm0 : m = 0 := by omega
    rw [show 4000 - wid l = 0 by omega, sp_zero, List.append_nil]
    conv => rhs; rw [hm]
    rw [hm0, sp_zero, List.append_nil]
/-- Strings, one after the other. -/
def catB (l : List ByteArray) : List UInt8 := l.flatMap fun s => s.data.toList
theorem catB_clus (d : List (List Nat)) : catB (d.map strC) = encS d.flatten := by
  induction d with
  | nil => rfl
  | cons c t ih =>
    unfold catB at ih ⊢
    rw [List.map_cons, List.flatMap_cons, ih, List.flatten_cons, encS_app]
    unfold strC
    rw [strL_data]
theorem padC_cat {c : List Int} {r : List ByteArray} {k : Nat} (h : begB (cellB r k) = true) : catB ((padC c r k).map strC) = pad (cellB r k).data.toList (c.getD k 0) := by
  obtain ⟨e, e1, _⟩ := pad_points h (c.getD k 0)
  have : padC c r k = clus e := by unfold padC; rw [e1]
  rw [catB_clus, this, clus_flatten, encS_points e1]
theorem fromK_le {c : List Int} (hc : ∀ k, 0 ≤ c.getD k 0 ∧ c.getD k 0 ≤ 300) : ∀ n, 0 ≤ fromK c n ∧ fromK c n ≤ 301 * n
  | 0 => ⟨Int.le_refl _, Int.le_refl _⟩
  | n + 1 => by
    have ih := fromK_le hc n
    have := hc n
    show 0 ≤ fromK c n + c.getD n 0 + 1 ∧ fromK c n + c.getD n 0 + 1 ≤ 301 * ((n + 1 : Nat) : Int)
    omega
/-- THE LAW: the clusters of the column k of the padded line are the padded cell. -/
theorem straight {c : List Int} {r : List ByteArray} {n k : Nat} (hb : ∀ s ∈ r, begB s = true) (h1 : ∀ k, (widB (cellB r k) : Int) ≤ c.getD k 0) (h2 : ∀ k, c.getD k 0 ≤ 300) (hn : n ≤ 13) (hk : k < n) :
    (fromK c k + c.getD k 0).toNat ≤ (clusB (pad (trimR (lineG c r n)) 4000)).length ∧
    catB (((clusB (pad (trimR (lineG c r n)) 4000)).drop (fromK c k).toNat).take (c.getD k 0).toNat) = pad (cellB r k).data.toList (c.getD k 0) := by
  have hb' := beg_all hb
  have h2' : ∀ k, c.getD k 0 ≤ 4000 := fun k => by have := h2 k; omega
  obtain ⟨d, d1, d2, _⟩ := line_points c r hb' n
  have hlen := lineC_len hb' h1 h2' n
  have hfr := (fromK_le (fun k => ⟨by have := h1 k; omega, h2 k⟩) n)
  have hw : wid (lineG c r n) ≤ 4000 := by
    unfold wid
    rw [d1]
    show (clus d).length ≤ 4000
    rw [d2]
    rw [List.length_append] at hlen
    omega
  rw [pad_trim hw]
  obtain ⟨e, e1, e2, _⟩ := clus_blanks d1 (4000 - wid (lineG c r n))
  have hcl : clusB (lineG c r n ++ sp (4000 - wid (lineG c r n))) = (clus e).map strC := by unfold clusB; rw [e1]
  rw [hcl, e2, d2]
  obtain ⟨rest, hrest⟩ := lineC_part c r k n hk
  have l1 := lineC_len hb' h1 h2' k
  have l2 := padC_len (hb' k) (h1 k) (h2' k)
  have h0 : 0 ≤ c.getD k 0 := by have := h1 k; omega
  have h3 : (lineC c r k ++ sepC k).length = (fromK c k).toNat := by omega
  have h4 : (padC c r k).length = (c.getD k 0).toNat := by omega
  rw [hrest]
  constructor
  · rw [List.length_map, List.length_append, List.length_append, List.length_append, h3, h4]
    have := (fromK_le (fun k => ⟨by have := h1 k; omega, h2 k⟩) k).1
    omega
  · rw [← List.map_drop, ← List.map_take, List.append_assoc, List.append_assoc, ← h3, List.drop_left, ← h4, List.take_left]
    exact padC_cat (hb' k)
end Go.Proofs.YtacfeabdeaikhaaDoor.Lay
