/-
  PLAIN LAW of the chapter on layout: the clusters of a line, padded, are those of its cells, each at its place. No program in sight.
-/
import Derived.Test.YtacfeabdeaikhaaDoorPlainLay
set_option linter.unusedVariables false
set_option linter.unusedSimpArgs false
namespace Go.Proofs.YtacfeabdeaikhaaDoor.Lay
open Go.Proofs.YtacfeabdeaikhaaDoor Go.Proofs.YtacfeabdeaikhaaDoor.Ru

/-- A cell is valid, and begins with no mark. -/
def begB (s : ByteArray) : Bool :=
  match points s.data.toList with
  | none => false
  | some [] => true
  | some (p :: _) => !mk p
theorem begB_some {s : ByteArray} (h : begB s = true) : ∃ d, points s.data.toList = some d ∧ Fresh d := by
  unfold begB at h
  cases hp : points s.data.toList with
  | none => rw [hp] at h; cases h
  | some d =>
    rw [hp] at h
    refine ⟨d, rfl, fun p t e => ?_⟩
    subst e
    simpa using h
theorem begB_empty : begB ⟨#[]⟩ = true := rfl
def blanks (n : Nat) : List (List Nat) := List.replicate n [32]
theorem clus_blanks {s : List UInt8} {d : List Nat} (h : points s = some d) (n : Nat) : ∃ e, points (s ++ sp n) = some e ∧ clus e = clus d ++ blanks n ∧ (Fresh d → Fresh e) := by
  induction n with
  | zero => exact ⟨d, by simp [sp_zero, h], by simp [blanks], fun hf => hf⟩
  | succ n ih =>
    obtain ⟨e, h1, h2, h3⟩ := ih
    refine ⟨e ++ [32], ?_, ?_, fun hf => ?_⟩
    · rw [sp_snoc, ← List.append_assoc, points_blank h1]
    · rw [clus_blank, h2, List.append_assoc]
      congr 1
      unfold blanks
      rw [List.replicate_succ']
    · intro p t hq
      cases e with
      | nil =>
        simp at hq
        rw [← hq.1]
        exact mk_blank
      | cons x y =>
        rw [List.cons_append] at hq
        injection hq with hq _
        rw [← hq]
        exact h3 hf x y rfl
/-- The clusters of the cell k, padded. -/
def padC (c : List Int) (r : List ByteArray) (k : Nat) : List (List Nat) :=
  match points (pad (cellB r k).data.toList (c.getD k 0)) with
  | none => []
  | some d => clus d
def sepC (k : Nat) : List (List Nat) := if 0 < k then [[32]] else []
def lineC (c : List Int) (r : List ByteArray) : Nat → List (List Nat)
  | 0 => []
  | k + 1 => lineC c r k ++ sepC k ++ padC c r k
theorem pad_points {s : ByteArray} (h : begB s = true) (n : Int) : ∃ d, points (pad s.data.toList n) = some d ∧ Fresh d := by
  obtain ⟨d, h1, h2⟩ := begB_some h
  unfold pad
  split
  · obtain ⟨e, h3, _, h4⟩ := clus_blanks h1 (n - wid s.data.toList).toNat
    exact ⟨e, h3, h4 h2⟩
  · exact ⟨d, h1, h2⟩
theorem points_both {s t : List UInt8} {ds dt : List Nat} (hs : points s = some ds) (ht : points t = some dt) : points (s ++ t) = some (ds ++ dt) := by
  rw [← encS_points hs, points_app (points_sc hs), ht]
  rfl
theorem fresh_app {a b : List Nat} (ha : Fresh a) (hb : Fresh b) : Fresh (a ++ b) := by
  intro p t h
  cases a with
  | nil => exact hb p t h
  | cons x y =>
    rw [List.cons_append] at h
    injection h with h _
    rw [← h]
    exact ha x y rfl
theorem sep_points (k : Nat) : ∃ d, points (if 0 < k then [32] else []) = some d ∧ clus d = sepC k ∧ Fresh d := by
  unfold sepC
  by_cases h : 0 < k
  · rw [if_pos h, if_pos h]
    refine ⟨[32], ?_, rfl, fun p t e => by injection e with e _; rw [← e]; exact mk_blank⟩
    have h1 := points_encS sc_blank
    rw [encS_one, encL_blank] at h1
    exact h1
  · rw [if_neg h, if_neg h]
    exact ⟨[], rfl, rfl, fun p t e => by cases e⟩
theorem line_points (c : List Int) (r : List ByteArray) (h : ∀ k, begB (cellB r k) = true) : ∀ n, ∃ d, points (lineG c r n) = some d ∧ clus d = lineC c r n ∧ Fresh d
  | 0 => ⟨[], rfl, rfl, fun p t e => by cases e⟩
  | n + 1 => by
    obtain ⟨d, h1, h2, h3⟩ := line_points c r h n
    obtain ⟨s, s1, s2, s3⟩ := sep_points n
    obtain ⟨e, e1, e2⟩ := pad_points (h n) (c.getD n 0)
    have he : padC c r n = clus e := by unfold padC; rw [e1]
    refine ⟨d ++ s ++ e, points_both (points_both h1 s1) e1, ?_, fresh_app (fresh_app h3 s3) e2⟩
    rw [clus_app _ _ e2, clus_app _ _ s3, h2, s2, ← he]
    rfl
theorem beg_all {r : List ByteArray} (h : ∀ s ∈ r, begB s = true) (k : Nat) : begB (cellB r k) = true := by
  cases hk : r[k]? with
  | none => rw [cellB_none (by rw [List.getElem?_eq_none_iff] at hk; exact hk)]; exact begB_empty
  | some s => rw [cellB_some hk]; exact h s (List.mem_of_getElem? hk)
/-- Where the column k begins. -/
def fromK (c : List Int) : Nat → Int
  | 0 => 0
  | k + 1 => fromK c k + c.getD k 0 + 1
theorem padC_len {c : List Int} {r : List ByteArray} {k : Nat} (h : begB (cellB r k) = true) (h1 : (widB (cellB r k) : Int) ≤ c.getD k 0) (h2 : c.getD k 0 ≤ 4000) : ((padC c r k).length : Int) = c.getD k 0 := by
  obtain ⟨e, e1, _⟩ := pad_points h (c.getD k 0)
  have h3 := pad_wid h1 h2
  have : padC c r k = clus e := by unfold padC; rw [e1]
  rw [this]
  unfold wid at h3
  rw [e1] at h3
  exact h3
theorem lineC_len {c : List Int} {r : List ByteArray} (h : ∀ k, begB (cellB r k) = true) (h1 : ∀ k, (widB (cellB r k) : Int) ≤ c.getD k 0) (h2 : ∀ k, c.getD k 0 ≤ 4000) : ∀ k, ((lineC c r k ++ sepC k).length : Int) = fromK c k
  | 0 => rfl
  | k + 1 => by
    have ih := lineC_len h h1 h2 k
    have hp := padC_len (h k) (h1 k) (h2 k)
    show (((lineC c r k ++ sepC k ++ padC c r k) ++ sepC (k + 1)).length : Int) = fromK c k + c.getD k 0 + 1
    rw [List.length_append, List.length_append, show (sepC (k + 1)).length = 1 by unfold sepC; rw [if_pos (by omega)]; rfl]
    omega
theorem lineC_part (c : List Int) (r : List ByteArray) (k : Nat) : ∀ n, k < n → ∃ rest, lineC c r n = (lineC c r k ++ sepC k) ++ padC c r k ++ rest
  | 0, h => by omega
  | n + 1, h => by
    by_cases e : k = n
    · subst e
      exact ⟨[], by rw [List.append_nil]; rfl⟩
    · obtain ⟨rest, hr⟩ := lineC_part c r k n (by omega)
      refine ⟨rest ++ sepC n ++ padC c r n, ?_⟩
      show lineC c r n ++ sepC n ++ padC c r n = _
      rw [hr]
      simp only [List.append_assoc]
/- Blanks at the end. -/
theorem trimR_split (l : List UInt8) : ∃ m, l = trimR l ++ sp m := by
  unfold trimR
  have h1 : ∀ r : List UInt8, ∃ m, r = List.replicate m 32 ++ r.dropWhile fun b => b == 32 := by
    intro r
    induction r with
    | nil => exact ⟨0, rfl⟩
    | cons b t ih =>
      by_cases hb : (b == 32) = true
      · obtain ⟨m, hm⟩ := ih
        refine ⟨m + 1, ?_⟩
        rw [List.dropWhile_cons_of_pos (p := fun b : UInt8 => b == 32) hb, List.replicate_succ, List.cons_append, ← hm]
        rw [beq_iff_eq.1 hb]
      · exact ⟨0, by rw [List.dropWhile_cons_of_neg (p := fun b : UInt8 => b == 32) hb]; rfl⟩
  obtain ⟨m, hm⟩ := h1 l.reverse
  refine ⟨m, ?_⟩
  have h2 := congrArg List.reverse hm
  rw [List.reverse_reverse, List.reverse_append, List.reverse_replicate] at h2
  exact h2
theorem trimR_end {l : List UInt8} {b : UInt8} (h : (trimR l).getLast? = some b) : b ≠ 32 := by
  unfold trimR at h
  rw [List.getLast?_reverse] at h
  have := List.head?_dropWhile_not (fun b : UInt8 => b == 32) l.reverse
  rw [h] at this
  simpa using this
theorem trimR_len (l : List UInt8) : (trimR l).length ≤ l.length := by
  obtain ⟨m, h⟩ := trimR_split l
  have := congrArg List.length h
  rw [List.length_append] at this
  omega
theorem pad_trim {l : List UInt8} (h : wid l ≤ 4000) : pad (trimR l) 4000 = l ++ sp (4000 - wid l) := by
  obtain ⟨m, hm⟩ := trimR_split l
  have hw : wid l = wid (trimR l) + m := by conv => lhs; rw [hm, wid_sp]
  unfold pad
  by_cases hlt : (wid (trimR l) : Int) < 4000
  · rw [if_pos ⟨hlt, by omega⟩]
    conv => rhs; rw [hm]
    rw [List.append_assoc, ← sp_add, ← hm]
    congr 2
    omega
  · rw [if_neg (fun h => hlt h.1)]
    have hm0 : m = 0 := by omega
    rw [show 4000 - wid l = 0 by omega, sp_zero, List.append_nil]
    conv => rhs; rw [hm]
    rw [hm0, sp_zero, List.append_nil]
/-- Strings, one after the other. -/
def catB (l : List ByteArray) : List UInt8 := l.flatMap fun s => s.data.toList
theorem catB_clus (d : List (List Nat)) : catB (d.map strC) = encS d.flatten := by
  induction d with
  | nil => rfl
  | cons c t ih =>
    unfold catB at ih ⊢
    rw [List.map_cons, List.flatMap_cons, ih, List.flatten_cons, encS_app]
    unfold strC
    rw [strL_data]
theorem padC_cat {c : List Int} {r : List ByteArray} {k : Nat} (h : begB (cellB r k) = true) : catB ((padC c r k).map strC) = pad (cellB r k).data.toList (c.getD k 0) := by
  obtain ⟨e, e1, _⟩ := pad_points h (c.getD k 0)
  have : padC c r k = clus e := by unfold padC; rw [e1]
  rw [catB_clus, this, clus_flatten, encS_points e1]
theorem fromK_le {c : List Int} (hc : ∀ k, 0 ≤ c.getD k 0 ∧ c.getD k 0 ≤ 300) : ∀ n, 0 ≤ fromK c n ∧ fromK c n ≤ 301 * n
  | 0 => ⟨Int.le_refl _, Int.le_refl _⟩
  | n + 1 => by
    have ih := fromK_le hc n
    have := hc n
    show 0 ≤ fromK c n + c.getD n 0 + 1 ∧ fromK c n + c.getD n 0 + 1 ≤ 301 * ((n + 1 : Nat) : Int)
    omega
/-- THE LAW: the clusters of the column k of the padded line are the padded cell. -/
theorem straight {c : List Int} {r : List ByteArray} {n k : Nat} (hb : ∀ s ∈ r, begB s = true) (h1 : ∀ k, (widB (cellB r k) : Int) ≤ c.getD k 0) (h2 : ∀ k, c.getD k 0 ≤ 300) (hn : n ≤ 13) (hk : k < n) :
    (fromK c k + c.getD k 0).toNat ≤ (clusB (pad (trimR (lineG c r n)) 4000)).length ∧
    catB (((clusB (pad (trimR (lineG c r n)) 4000)).drop (fromK c k).toNat).take (c.getD k 0).toNat) = pad (cellB r k).data.toList (c.getD k 0) := by
  have hb' := beg_all hb
  have h2' : ∀ k, c.getD k 0 ≤ 4000 := fun k => by have := h2 k; omega
  obtain ⟨d, d1, d2, _⟩ := line_points c r hb' n
  have hlen := lineC_len hb' h1 h2' n
  have hfr := (fromK_le (fun k => ⟨by have := h1 k; omega, h2 k⟩) n)
  have hw : wid (lineG c r n) ≤ 4000 := by
    unfold wid
    rw [d1]
    show (clus d).length ≤ 4000
    rw [d2]
    rw [List.length_append] at hlen
    omega
  rw [pad_trim hw]
  obtain ⟨e, e1, e2, _⟩ := clus_blanks d1 (4000 - wid (lineG c r n))
  have hcl : clusB (lineG c r n ++ sp (4000 - wid (lineG c r n))) = (clus e).map strC := by unfold clusB; rw [e1]
  rw [hcl, e2, d2]
  obtain ⟨rest, hrest⟩ := lineC_part c r k n hk
  have l1 := lineC_len hb' h1 h2' k
  have l2 := padC_len (hb' k) (h1 k) (h2' k)
  have h0 : 0 ≤ c.getD k 0 := by have := h1 k; omega
  have h3 : (lineC c r k ++ sepC k).length = (fromK c k).toNat := by omega
  have h4 : (padC c r k).length = (c.getD k 0).toNat := by omega
  rw [hrest]
  constructor
  · rw [List.length_map, List.length_append, List.length_append, List.length_append, h3, h4]
    have := (fromK_le (fun k => ⟨by have := h1 k; omega, h2 k⟩) k).1
    omega
  · rw [← List.map_drop, ← List.map_take, List.append_assoc, List.append_assoc, ← h3, List.drop_left, ← h4, List.take_left]
    exact padC_cat (hb' k)
end Go.Proofs.YtacfeabdeaikhaaDoor.Lay
