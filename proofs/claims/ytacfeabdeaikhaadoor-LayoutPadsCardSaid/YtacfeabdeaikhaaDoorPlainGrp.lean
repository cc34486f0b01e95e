/-
  PLAIN LAW of the chapter on layout: groups of columns, and the lines of all groups. No program in sight.
-/
import Derived.Test.YtacfeabdeaikhaaDoorPlainLay
set_option linter.unusedVariables false
set_option linter.unusedSimpArgs false
namespace Go.Proofs.YtacfeabdeaikhaaDoor.Lay
open Go.Proofs.YtacfeabdeaikhaaDoor Go.Proofs.YtacfeabdeaikhaaDoor.Ru

def Fit (c : List Int) (W : Int) (i : Nat) : Prop := 0 < i ∧ (gst c W i).2 ≤ W ∧ max (c.getD i 0) 0 ≤ W - (gst c W i).2 - 1
theorem gst_no {c : List Int} {W : Int} {i : Nat} (h : ¬ Fit c W i) : gst c W (i + 1) = ((gst c W i).1 ++ [(i, i + 1)], max (c.getD i 0) 0) := by
  exact if_neg h
theorem gst_yes {c : List Int} {W : Int} {i f e : Nat} {done : List (Nat × Nat)} (h : Fit c W i) (hg : (gst c W i).1 = done ++ [(f, e)]) :
    gst c W (i + 1) = (done ++ [(f, i + 1)], (gst c W i).2 + 1 + max (c.getD i 0) 0) := by
  refine (if_pos h).trans ?_
  rw [hg]
  simp
theorem gst_last {c : List Int} {W : Int} : ∀ i, 0 < i → ∃ done f, (gst c W i).1 = done ++ [(f, i)] ∧ f < i
  | 0, h => by omega
  | i + 1, _ => by
    by_cases h : Fit c W i
    · obtain ⟨done, f, hg, hf⟩ := gst_last i h.1
      exact ⟨done, f, by rw [gst_yes h hg], by omega⟩
    · exact ⟨_, i, by rw [gst_no h], by omega⟩
theorem gst_rng {c : List Int} {W M : Int} (hc : ∀ x ∈ c, x ≤ M) (hW : W ≤ M) (hM : 0 ≤ M) : ∀ i, 0 ≤ (gst c W i).2 ∧ (gst c W i).2 ≤ M
  | 0 => ⟨Int.le_refl _, hM⟩
  | i + 1 => by
    have ih := gst_rng hc hW hM i
    by_cases h : Fit c W i
    · obtain ⟨done, f, hg, hf⟩ := gst_last (c := c) (W := W) i h.1
      rw [gst_yes h hg]
      have h3 := h.2.2
      have h4 : 0 ≤ max (c.getD i 0) 0 := Int.le_max_right _ _
      constructor
      · show 0 ≤ (gst c W i).2 + 1 + _; omega
      · show (gst c W i).2 + 1 + _ ≤ M; omega
    · rw [gst_no h]
      refine ⟨Int.le_max_right _ _, ?_⟩
      show max (c.getD i 0) 0 ≤ M
      cases hi : c[i]? with
      | none => rw [List.getD, hi]; exact Int.max_le.2 ⟨hM, hM⟩
      | some x => rw [List.getD, hi]; exact Int.max_le.2 ⟨hc x (List.mem_of_getElem? hi), hM⟩
theorem gst_len {c : List Int} {W : Int} : ∀ i, (gst c W i).1.length ≤ i
  | 0 => Nat.le_refl _
  | i + 1 => by
    have ih := gst_len (c := c) (W := W) i
    by_cases h : Fit c W i
    · obtain ⟨done, f, hg, hf⟩ := gst_last (c := c) (W := W) i h.1
      rw [gst_yes h hg]
      rw [hg] at ih
      simp at ih ⊢
      omega
    · rw [gst_no h]
      simp
      omega
/-- The width of the n + 1 columns from f on. -/
def seg (c : List Int) (f : Nat) : Nat → Int
  | 0 => max (c.getD f 0) 0
  | n + 1 => seg c f n + 1 + max (c.getD (f + n + 1) 0) 0
theorem seg_mono (c : List Int) (f : Nat) (n : Nat) : 0 ≤ seg c f n ∧ seg c f n + 1 ≤ seg c f (n + 1) := by
  have h : 0 ≤ seg c f n := by
    induction n with
    | zero => exact Int.le_max_right _ _
    | succ n ih =>
      have : 0 ≤ max (c.getD (f + n + 1) 0) 0 := Int.le_max_right _ _
      show 0 ≤ seg c f n + 1 + _
      omega
  refine ⟨h, ?_⟩
  have : 0 ≤ max (c.getD (f + n + 1) 0) 0 := Int.le_max_right _ _
  show _ ≤ seg c f n + 1 + _
  omega
theorem seg_le (c : List Int) (f : Nat) {n m : Nat} (h : n ≤ m) : seg c f n ≤ seg c f m := by
  induction m with
  | zero => obtain rfl : n = 0 := by omega
            exact Int.le_refl _
  | succ m ih =>
    by_cases e : n = m + 1
    · subst e; exact Int.le_refl _
    · have := ih (by omega)
      have := (seg_mono c f m).2
      omega
/-- Where group j begins. -/
def startOf (l : List (Nat × Nat)) : Nat → Nat
  | 0 => 0
  | j + 1 => (l.getD j (0, 0)).2
/-- What holds of the groups of the first i columns. -/
structure GOk (c : List Int) (W : Int) (i : Nat) (l : List (Nat × Nat)) (u : Int) : Prop where
  each : ∀ j f e, l[j]? = some (f, e) → f < e ∧ e ≤ i ∧ f = startOf l j ∧ (1 < e - f → seg c f (e - f - 1) ≤ W) ∧ (j + 1 < l.length → ¬ (seg c f (e - f - 1) + 1 + max (c.getD e 0) 0 ≤ W))
  last : startOf l l.length = i
  wide : ∀ f e, l.getLast? = some (f, e) → u = seg c f (e - f - 1)
  none_ : l = [] → i = 0
theorem getD_of_some {α : Type} {l : List α} {j : Nat} {x d : α} (h : l[j]? = some x) : l.getD j d = x := by rw [List.getD, h]; rfl
theorem startOf_app {l m : List (Nat × Nat)} {j : Nat} (h : j ≤ l.length) : startOf (l ++ m) j = startOf l j := by
  cases j with
  | zero => rfl
  | succ j =>
    show ((l ++ m).getD j (0, 0)).2 = (l.getD j (0, 0)).2
    rw [List.getD, List.getD, List.getElem?_append_left (by omega)]
theorem gst_ok (c : List Int) (W : Int) : ∀ i, GOk c W i (gst c W i).1 (gst c W i).2
  | 0 => ⟨fun j f e h => by simp [gst] at h, rfl, fun f e h => by simp [gst] at h, fun _ => rfl⟩
  | i + 1 => by
    have ih := gst_ok c W i
    by_cases h : Fit c W i
    · obtain ⟨done, f, hg, hf⟩ := gst_last (c := c) (W := W) i h.1
      have hu := ih.wide f i (by rw [hg]; simp)
      rw [hg] at ih
      have hlast := ih.each done.length f i (by simp)
      rw [gst_yes h hg]
      have hseg : (gst c W i).2 + 1 + max (c.getD i 0) 0 = seg c f (i + 1 - f - 1) := by
        rw [hu, show i + 1 - f - 1 = (i - f - 1) + 1 by omega]
        show _ = seg c f (i - f - 1) + 1 + max (c.getD (f + (i - f - 1) + 1) 0) 0
        rw [show f + (i - f - 1) + 1 = i by omega]
      refine ⟨fun j f' e hj => ?_, ?_, fun f' e hl => ?_, fun h0 => by simp at h0⟩
      · by_cases hjd : j < done.length
        · rw [List.getElem?_append_left hjd] at hj
          obtain ⟨a1, a2, a3, a4, a5⟩ := ih.each j f' e (by rw [List.getElem?_append_left hjd]; exact hj)
          refine ⟨a1, by omega, ?_, a4, fun _ => a5 (by simp; omega)⟩
          rw [startOf_app (by omega)]
          rw [startOf_app (by omega)] at a3
          exact a3
        · rw [List.getElem?_append_right (by omega)] at hj
          have hj0 : j - done.length = 0 := by
            have := (List.getElem?_eq_some_iff.1 hj).1
            simp at this
            omega
          rw [hj0] at hj
          simp at hj
          obtain ⟨rfl, rfl⟩ := hj
          obtain rfl : j = done.length := by omega
          refine ⟨by omega, Nat.le_refl _, ?_, fun _ => ?_, fun hlt => by simp at hlt⟩
          · have := hlast.2.2.1
            rw [startOf_app (Nat.le_refl _)] at this ⊢
            exact this
          · rw [← hseg]
            have := h.2.2
            omega
      · rw [List.length_append]
        show (((done ++ [(f, i + 1)]).getD done.length (0, 0))).2 = _
        rw [getD_of_some (x := (f, i + 1)) (by simp)]
      · rw [List.getLast?_append] at hl
        simp at hl
        obtain ⟨rfl, rfl⟩ := hl
        exact hseg
    · rw [gst_no h]
      refine ⟨fun j f' e hj => ?_, ?_, fun f' e hl => ?_, fun h0 => by simp at h0⟩
      · by_cases hjd : j < (gst c W i).1.length
        · rw [List.getElem?_append_left hjd] at hj
          obtain ⟨a1, a2, a3, a4, a5⟩ := ih.each j f' e hj
          refine ⟨a1, by omega, by rw [startOf_app (by omega)]; exact a3, a4, fun hlt => ?_⟩
          by_cases hj1 : j + 1 < (gst c W i).1.length
          · exact a5 hj1
          · have hlst : (gst c W i).1.getLast? = some (f', e) := by
              rw [List.getLast?_eq_getElem?, show (gst c W i).1.length - 1 = j by omega]
              exact hj
            have hi0 : 0 < i := by omega
            obtain ⟨done, f, hg, hf⟩ := gst_last (c := c) (W := W) i hi0
            have he : e = i := by
              rw [hg] at hlst
              simp at hlst
              omega
            subst he
            rw [← ih.wide f' e hlst]
            intro hle
            refine h ⟨hi0, ?_, ?_⟩
            · have : 0 ≤ max (c.getD e 0) 0 := Int.le_max_right _ _
              omega
            · omega
        · rw [List.getElem?_append_right (by omega)] at hj
          have hj0 : j - (gst c W i).1.length = 0 := by
            have := (List.getElem?_eq_some_iff.1 hj).1
            simp at this
            omega
          rw [hj0] at hj
          simp at hj
          obtain ⟨rfl, rfl⟩ := hj
          obtain rfl : j = (gst c W i).1.length := by omega
          refine ⟨by omega, Nat.le_refl _, ?_, fun hgt => by omega, fun hlt => by simp at hlt⟩
          rw [startOf_app (Nat.le_refl _)]
          exact ih.last.symm
      · rw [List.length_append]
        show ((((gst c W i).1 ++ [(i, i + 1)]).getD (gst c W i).1.length (0, 0))).2 = _
        rw [getD_of_some (x := (i, i + 1)) (by simp)]
      · rw [List.getLast?_append] at hl
        simp at hl
        obtain ⟨rfl, rfl⟩ := hl
        rw [show i + 1 - i - 1 = 0 by omega]
        rfl
theorem groups_ok (c : List Int) (W : Int) : GOk c W c.length (groups c W) (gst c W c.length).2 := gst_ok c W c.length
/-- All columns fit: one group. -/
theorem gst_all {c : List Int} {W : Int} {m : Nat} (h : seg c 0 m ≤ W) : ∀ i, i ≤ m → gst c W (i + 1) = ([(0, i + 1)], seg c 0 i)
  | 0, _ => by
    rw [gst_no (fun hf => by have := hf.1; omega)]
    rfl
  | i + 1, hi => by
    have ih := gst_all h i (by omega)
    have hm := seg_mono c 0 i
    have hs : seg c 0 (i + 1) ≤ W := Int.le_trans (seg_le c 0 hi) h
    have e : seg c 0 (i + 1) = seg c 0 i + 1 + max (c.getD (i + 1) 0) 0 := by
      show seg c 0 i + 1 + max (c.getD (0 + i + 1) 0) 0 = _
      rw [Nat.zero_add]
    have hf : Fit c W (i + 1) := ⟨by omega, by rw [ih]; show seg c 0 i ≤ W; omega, by rw [ih]; show _ ≤ W - seg c 0 i - 1; omega⟩
    rw [gst_yes (done := []) (f := 0) (e := i + 1) hf (by rw [ih]; rfl), ih, e]
    rfl
theorem groups_all {c : List Int} {W : Int} (hc : 0 < c.length) (h : seg c 0 (c.length - 1) ≤ W) : groups c W = [(0, c.length)] := by
  unfold groups
  obtain ⟨m, hm⟩ : ∃ m, c.length = m + 1 := ⟨c.length - 1, by omega⟩
  rw [hm] at h ⊢
  rw [gst_all h m (Nat.le_refl _)]
theorem groups_pos {c : List Int} {W : Int} (hc : 0 < c.length) : 0 < (groups c W).length := by
  have := (groups_ok c W).none_
  cases h : groups c W with
  | nil => have := this h; omega
  | cons x t => simp
theorem groups_len (c : List Int) (W : Int) : (groups c W).length ≤ c.length := gst_len _

/- The lines of all groups. -/
theorem alignL_len (L : List (List ByteArray)) : (alignL L).length = L.length := by unfold alignL; simp
theorem wrapG_len {f : Nat × Nat → List ByteArray} {G : List (Nat × Nat)} {m : Nat} (hf : ∀ g, (f g).length = m) : ∀ i, (wrapG f G (i + 1)).length = (i + 1) * m + i
  | 0 => by simp [wrapG, hf]
  | i + 1 => by
    show (wrapG f G (i + 1) ++ (if 0 < i + 1 then [(⟨#[]⟩ : ByteArray)] else []) ++ f _).length = _
    rw [List.length_append, List.length_append, wrapG_len hf i, hf, if_pos (by omega)]
    simp [Nat.add_mul]
    omega
theorem wrapL_len {L : List (List ByteArray)} {W : Int} (h : 0 < nmax L) : (wrapL L W).length = (groups (cols L) W).length * L.length + (groups (cols L) W).length - 1 := by
  have hp := groups_pos (c := cols L) (W := W) (by rw [cols_len]; exact h)
  unfold wrapL
  obtain ⟨n, hn⟩ : ∃ n, (groups (cols L) W).length = n + 1 := ⟨(groups (cols L) W).length - 1, by omega⟩
  rw [hn, wrapG_len (m := L.length) (fun g => by rw [alignL_len]; unfold partP; simp)]
  omega
theorem wrapL_none {L : List (List ByteArray)} {W : Int} (h : nmax L = 0) : wrapL L W = [] := by
  have h1 : (cols L).length = 0 := by rw [cols_len]; exact h
  have h2 : (groups (cols L) W).length = 0 := by have := groups_len (cols L) W; omega
  unfold wrapL
  rw [h2]
  rfl
theorem partP_all {L : List (List ByteArray)} {n : Nat} (h : nmax L ≤ n) : partP L (0, n) = L := by
  unfold partP
  conv => rhs; rw [← List.map_id L]
  refine List.map_congr_left fun r hr => ?_
  have := le_nmax hr
  show (r.take (min n r.length)).drop (min 0 r.length) = r
  rw [Nat.min_eq_right (show r.length ≤ n by omega), Nat.zero_min, List.drop_zero, List.take_length]
theorem wrapL_all {L : List (List ByteArray)} {W : Int} (h : 0 < nmax L) (hs : seg (cols L) 0 (nmax L - 1) ≤ W) : wrapL L W = alignL L := by
  have hg := groups_all (c := cols L) (W := W) (by rw [cols_len]; exact h) (by rw [cols_len]; exact hs)
  unfold wrapL
  rw [hg, cols_len]
  show [] ++ (if 0 < 0 then _ else []) ++ alignL (partP L ([(0, nmax L)].getD 0 (0, 0))) = _
  rw [List.getD_cons_zero, partP_all (Nat.le_refl _)]
  simp

/- The two cuts of the rows give the same lines. -/
theorem cellB_part {r : List ByteArray} {f e k : Nat} (h : f + k < e) : cellB ((r.take (min e r.length)).drop (min f r.length)) k = cellB r (f + k) := by
  unfold cellB
  rw [List.getD, List.getD, List.getElem?_drop]
  by_cases hf : f ≤ r.length
  · rw [Nat.min_eq_left hf, List.getElem?_take]
    by_cases hl : f + k < min e r.length
    · rw [if_pos hl]
    · rw [if_neg hl, List.getElem?_eq_none (l := r) (by omega)]
  · rw [List.getElem?_eq_none (by rw [List.length_take]; omega), List.getElem?_eq_none (by omega)]
theorem colAt_map {L : List (List ByteArray)} {g h : List ByteArray → List ByteArray} {k : Nat} (hk : ∀ r ∈ L, cellB (g r) k = cellB (h r) k) : colAt (L.map g) k = colAt (L.map h) k := by
  induction L with
  | nil => rfl
  | cons r t ih =>
    show max _ (colAt (t.map g) k) = max _ (colAt (t.map h) k)
    rw [hk r (by simp), ih fun x hx => hk x (by simp [hx])]
theorem nmax_map {L : List (List ByteArray)} {g : List ByteArray → List ByteArray} {n : Nat} (h : ∀ r ∈ L, (g r).length ≤ n) (h2 : ∃ r ∈ L, (g r).length = n) : nmax (L.map g) = n := by
  refine Nat.le_antisymm (nmax_le fun r hr => ?_) ?_
  · obtain ⟨x, hx, rfl⟩ := List.mem_map.1 hr
    exact h x hx
  · obtain ⟨r, hr, e⟩ := h2
    rw [← e]
    exact le_nmax (List.mem_map.2 ⟨r, hr, rfl⟩)
theorem nmax_some {L : List (List ByteArray)} (h : 0 < nmax L) : ∃ r ∈ L, r.length = nmax L := by
  induction L with
  | nil => exact absurd h (by decide)
  | cons r t ih =>
    by_cases h1 : nmax t ≤ r.length
    · refine ⟨r, by simp, ?_⟩
      show _ = max r.length (nmax t)
      omega
    · obtain ⟨x, hx, e⟩ := ih (by omega)
      refine ⟨x, by simp [hx], ?_⟩
      show _ = max r.length (nmax t)
      omega
theorem lineG_congr {c : List Int} {r s : List ByteArray} : ∀ n, (∀ k, k < n → cellB r k = cellB s k) → lineG c r n = lineG c s n
  | 0, _ => rfl
  | n + 1, h => by
    show lineG c r n ++ _ ++ pad (cellB r n).data.toList _ = lineG c s n ++ _ ++ pad (cellB s n).data.toList _
    rw [lineG_congr n fun k hk => h k (by omega), h n (by omega)]
theorem part_same {L : List (List ByteArray)} {g : Nat × Nat} (h1 : g.1 < g.2) (h2 : g.2 ≤ nmax L) : alignL (partP L g) = alignL (partR L g) := by
  have hr : ∃ r ∈ L, r.length = nmax L := nmax_some (by omega)
  have n1 : nmax (partP L g) = g.2 - g.1 := by
    refine nmax_map (fun r hr => ?_) ?_
    · rw [List.length_drop, List.length_take]
      omega
    · obtain ⟨r, hr, e⟩ := hr
      refine ⟨r, hr, ?_⟩
      rw [List.length_drop, List.length_take]
      omega
  have n2 : nmax (partR L g) = g.2 - g.1 := by
    refine nmax_map (fun r hr => by simp) ?_
    obtain ⟨r, hr, _⟩ := hr
    exact ⟨r, hr, by simp⟩
  have hcell : ∀ (r : List ByteArray) k, k < g.2 - g.1 → cellB ((r.take (min g.2 r.length)).drop (min g.1 r.length)) k = cellB ((List.range (g.2 - g.1)).map fun j => cellB r (g.1 + j)) k := fun r k hk => by
    rw [cellB_part (by omega)]
    refine (cellB_some ?_).symm
    rw [List.getElem?_map, List.getElem?_range hk]
    rfl
  have hcols : cols (partP L g) = cols (partR L g) := by
    unfold cols
    rw [n1, n2]
    refine List.map_congr_left fun k hk => ?_
    rw [List.mem_range] at hk
    unfold partP partR
    rw [colAt_map fun r _ => hcell r k hk]
  unfold alignL
  rw [hcols]
  unfold partP partR
  rw [List.map_map, List.map_map]
  refine List.map_congr_left fun r _ => ?_
  show lineL _ _ = lineL _ _
  unfold lineL
  rw [lineG_congr]
  intro k hk
  refine hcell r k ?_
  have h3 := cols_len (partR L g)
  have h4 : (cols (L.map fun r => (List.range (g.2 - g.1)).map fun j => cellB r (g.1 + j))).length = nmax (partR L g) := h3
  rw [h4, n2] at hk
  exact hk
theorem wrapG_congr {f h : Nat × Nat → List ByteArray} {G : List (Nat × Nat)} : ∀ n, n ≤ G.length → (∀ g ∈ G, f g = h g) → wrapG f G n = wrapG h G n
  | 0, _, _ => rfl
  | n + 1, hn, hg => by
    show wrapG f G n ++ _ ++ f _ = wrapG h G n ++ _ ++ h _
    have : G[n]? = some (G[n]'(by omega)) := List.getElem?_eq_getElem (by omega)
    rw [wrapG_congr n (by omega) hg, getD_of_some this, hg _ (List.getElem_mem _)]
theorem wrapL_ref (L : List (List ByteArray)) (W : Int) : wrapL L W = wrapG (fun g => alignL (partR L g)) (groups (cols L) W) (groups (cols L) W).length := by
  unfold wrapL
  refine wrapG_congr _ (Nat.le_refl _) fun g hg => ?_
  obtain ⟨j, hj⟩ := List.getElem?_of_mem hg
  obtain ⟨h1, h2, _⟩ := (groups_ok (cols L) W).each j g.1 g.2 hj
  rw [cols_len] at h2
  exact part_same h1 h2
end Go.Proofs.YtacfeabdeaikhaaDoor.Lay
