import Derived.Test.YthcabnfcgjnlnaaGreatDoorK18
import Derived.Deep.LoopGhost
namespace Go.Proofs.YthcabnfcgjnlnaaGreatDoor
open Go.RowKit
set_option linter.unusedVariables false
set_option linter.unusedSimpArgs false

/-- A slice of segments reads as S. -/
def SegsR (w : World) (B : Nat) (A : Option Addr) (n : Nat) (S : List (ByteArray × Int)) : Prop :=
  S.length = n ∧ (0 < n → ∃ ad, A = some ad ∧ ad.block < B ∧ ∀ k x, S[k]? = some x → w.cell? (ad.add (k * 2)) = some (.string x.1) ∧ w.cell? (ad.add (k * 2 + 1)) = some (.int .i64 x.2))
theorem SegsR.below {w w' : World} {B : Nat} {A : Option Addr} {n : Nat} {S : List (ByteArray × Int)} (h : SegsR w B A n S) (hb : Below B w w') : SegsR w' B A n S :=
  ⟨h.1, fun hn => by
    obtain ⟨ad, e, hlt, hc⟩ := h.2 hn
    refine ⟨ad, e, hlt, fun k x hx => ?_⟩
    obtain ⟨h1, h2⟩ := hc k x hx
    exact ⟨(hb.cell (by rw [block_of_add]; exact hlt)).trans h1, (hb.cell (by rw [block_of_add]; exact hlt)).trans h2⟩⟩
theorem SegsR.more {w : World} {B B' : Nat} {A : Option Addr} {n : Nat} {S : List (ByteArray × Int)} (h : SegsR w B A n S) (hB : B ≤ B') : SegsR w B' A n S :=
  ⟨h.1, fun hn => by
    obtain ⟨ad, e, hlt, hc⟩ := h.2 hn
    exact ⟨ad, e, by omega, hc⟩⟩
def segName (S : List (ByteArray × Int)) (i : Nat) : ByteArray := (S.getD i (⟨#[]⟩, 0)).1
def segFeat (S : List (ByteArray × Int)) (i : Nat) : Int := (S.getD i (⟨#[]⟩, 0)).2
theorem field_at {w : World} {p : Addr} {i : Nat} {v : Value} (hi : 0 < i) (h : w.cell? (p.add i) = some v) : w.cell? ⟨p.block, p.off + i, none⟩ = some v := by
  unfold Addr.add at h
  rw [if_neg (by omega)] at h
  exact h
theorem SegsR.at_ {w : World} {B : Nat} {A : Option Addr} {n k : Nat} {S : List (ByteArray × Int)} (h : SegsR w B A n S) (hk : k < n) :
    ∃ ad, A = some ad ∧ ad.block < B ∧ w.cell? (ad.add (k * 2)) = some (.string (segName S k)) ∧ w.cell? ⟨(ad.add (k * 2)).block, (ad.add (k * 2)).off + 1, none⟩ = some (.int .i64 (segFeat S k)) ∧ w.cell? (ad.add (k * 2 + 1)) = some (.int .i64 (segFeat S k)) := by
  obtain ⟨ad, e, hlt, hc⟩ := h.2 (by omega)
  have hl : k < S.length := by rw [h.1]; exact hk
  obtain ⟨h1, h2⟩ := hc k S[k] (List.getElem?_eq_getElem hl)
  refine ⟨ad, e, hlt, ?_, ?_, ?_⟩
  · rw [h1]; simp [segName, List.getD, hl]
  · refine field_at (by omega) ?_
    rw [add_of_add, h2]; simp [segFeat, List.getD, hl]
  · rw [h2]; simp [segFeat, List.getD, hl]
end Go.Proofs.YthcabnfcgjnlnaaGreatDoor
/-
  ROWS OF PAIRS OF INTEGERS ([][2]int): read, and owned by the call.
-/
namespace Go.Proofs.YthcabnfcgjnlnaaGreatDoor
open Go.RowKit Ru Lay
set_option linter.unusedVariables false
set_option linter.unusedSimpArgs false

def pairV (l : List (Nat × Nat)) : List Value := l.flatMap fun p => [Value.int .i64 (p.1 : Int), Value.int .i64 (p.2 : Int)]
theorem pairV_app (l : List (Nat × Nat)) (p : Nat × Nat) : pairV (l ++ [p]) = pairV l ++ [.int .i64 (p.1 : Int), .int .i64 (p.2 : Int)] := by unfold pairV; simp
theorem pairV_len (l : List (Nat × Nat)) : (pairV l).length = l.length * 2 := by
  induction l with
  | nil => rfl
  | cons p t ih =>
    show (List.length ([_, _] ++ pairV t)) = _
    rw [List.length_append, ih]
    simp
    omega
theorem pairV_at {l : List (Nat × Nat)} {k : Nat} {p : Nat × Nat} (h : l[k]? = some p) : (pairV l)[k * 2]? = some (.int .i64 (p.1 : Int)) ∧ (pairV l)[k * 2 + 1]? = some (.int .i64 (p.2 : Int)) := by
  induction l generalizing k with
  | nil => simp at h
  | cons q t ih =>
    cases k with
    | zero =>
      simp at h
      subst h
      exact ⟨rfl, rfl⟩
    | succ k =>
      rw [List.getElem?_cons_succ] at h
      obtain ⟨h1, h2⟩ := ih h
      have e : pairV (q :: t) = .int .i64 (q.1 : Int) :: .int .i64 (q.2 : Int) :: pairV t := rfl
      rw [e, show (k + 1) * 2 = k * 2 + 1 + 1 by omega]
      exact ⟨h1, h2⟩
theorem info_pair : (Tryz.prog.info? 108).map (fun i => (i.zero, i.size, i.bytes)) = some (some (.agg #[.int .i64 0, .int .i64 0]), 2, 16) := by kernel_rfl
/-- A row of pairs of the call's own. -/
def OwnG (w : World) (base : Nat) (v : Value) (l : List (Nat × Nat)) : Prop := w.ownsRow base 108 2 v l.length (pairV l)
theorem OwnG.nil (w : World) (base : Nat) : OwnG w base (.slice none 0 0) [] := World.ownsRow_nil _ _ _ _
theorem OwnG.on {w w' : World} {base : Nat} {v : Value} {l : List (Nat × Nat)} (h : OwnG w base v l) (hb : Below w.heap.size w w') : OwnG w' base v l := own_below h hb
/-- A row of pairs, as it is read. -/
def GR (w : World) (B : Nat) (A : Option Addr) (n : Nat) (l : List (Nat × Nat)) : Prop := Reads w B 2 A n (pairV l) ∧ l.length = n
theorem GR.on {w w' : World} {n : Nat} {A : Option Addr} {l : List (Nat × Nat)} (h : GR w w.heap.size A n l) (hb : Below w.heap.size w w') : GR w' w'.heap.size A n l := ⟨Reads.on h.1 hb, h.2⟩
theorem GR.at_ {w : World} {B n k : Nat} {A : Option Addr} {l : List (Nat × Nat)} (h : GR w B A n l) (hk : k < n) :
    ∃ ad p, A = some ad ∧ ad.block < B ∧ l[k]? = some p ∧ w.cell? (ad.add (k * 2)) = some (.int .i64 (p.1 : Int)) ∧ w.cell? ⟨(ad.add (k * 2)).block, (ad.add (k * 2)).off + 1, none⟩ = some (.int .i64 (p.2 : Int)) := by
  obtain ⟨ad, e, hb, hc⟩ := h.1.2 (by omega)
  have hlt : k < l.length := by have := h.2; omega
  have hp : l[k]? = some l[k] := List.getElem?_eq_getElem hlt
  obtain ⟨h1, h2⟩ := pairV_at hp
  refine ⟨ad, l[k], e, hb, hp, hc _ _ h1, field_at (by omega) ?_⟩
  rw [add_of_add]
  exact hc _ _ h2
theorem OwnG.form {w : World} {base : Nat} {v : Value} {l : List (Nat × Nat)} (h : OwnG w base v l) : ∃ A c, v = .slice A l.length c ∧ GR w w.heap.size A l.length l := by
  rcases h.2 with ⟨rfl, h0⟩ | ⟨g, cap, cur, rfl, hg, hh, hn, hm, hs, ht⟩
  · rw [h0]
    exact ⟨none, 0, rfl, ⟨by rw [pairV_len, h0], fun hh => by omega⟩, h0⟩
  · exact ⟨some ⟨g, 0, none⟩, cap, rfl, ⟨h.1, fun _ => ⟨_, rfl, (h.lt g rfl).2, h.cells (g := g) rfl⟩⟩, rfl⟩
theorem OwnG.last {w : World} {base : Nat} {v : Value} {l : List (Nat × Nat)} {p : Nat × Nat} (h : OwnG w base v (l ++ [p])) :
    ∃ g cap, v = .slice (some ⟨g, 0, none⟩) (l.length + 1) cap ∧ base ≤ g ∧ g < w.heap.size ∧ w.frozen? ⟨g, l.length * 2 + 1, none⟩ = false ∧ w.cell? ⟨g, l.length * 2 + 1, none⟩ = some (.int .i64 (p.2 : Int)) ∧ ∀ x : Nat,
      OwnG (w.setCell ⟨g, l.length * 2 + 1, none⟩ (.int .i64 (x : Int))) base v (l ++ [(p.1, x)]) ∧ Below base w (w.setCell ⟨g, l.length * 2 + 1, none⟩ (.int .i64 (x : Int))) := by
  have h0 := h
  unfold OwnG at h0
  rw [List.length_append, List.length_singleton] at h0
  obtain ⟨g, cap, rfl, h1, h2⟩ := World.ownsRow.form h0 (by omega)
  refine ⟨g, cap, rfl, h1, h2, World.ownsRow.frozenAt h0 _, ?_, fun x => ?_⟩
  · rw [World.ownsRow.cellAt h0 _ (by omega)]
    exact (pairV_at (k := l.length) (p := p) (by simp)).2
  · have hs := World.ownsRow.stored h0 (l.length * 2 + 1) (.int .i64 (x : Int))
    have e1 : (pairV (l ++ [p])).set (l.length * 2 + 1) (.int .i64 (x : Int)) = pairV (l ++ [(p.1, x)]) := by
      rw [pairV_app, pairV_app, List.set_append_right _ _ (by rw [pairV_len]; omega), pairV_len]
      simp
    rw [e1] at hs
    refine ⟨?_, (Below.refl _ _).grown hs.2 (Nat.le_of_lt (Nat.lt_of_le_of_lt h1 h2)) fun k hk => by cases hk; exact h1⟩
    show World.ownsRow _ _ _ _ _ _ _
    rw [List.length_append, List.length_singleton]
    exact hs.1
/-- 'append(s, [2]int{x, y})' onto a row of the call's own: the pair has just been laid in a block of its own. -/
theorem wpList_app2 {P : Program} {ops : Array Oper} {rest : List Oper} {o : Oper} {a : Act} {Q : Exit → Act → World → Prop} {w0 : World} {x y : Value} (hgd : o.guard = none) (s yy : Operand) (t : TypeId)
    (ho : o.op = .call { callee := .builtin .append, args := #[s, yy], argTypes := #[t, t] })
    (base : Nat) (e : TypeId) (bytes : Nat) (z : Value) (hinfo : (P.info? e).map (fun i => (i.zero, i.size, i.bytes)) = some (some z, 2, bytes)) (hzc : z.cells.size = 2) (ht : P.underlying t = some (.slice e))
    {v : Value} {n : Nat} {xs : List Value} (hs : a.eval s = v) (hown : w0.ownsRow base e 2 v n xs) (hy : a.eval yy = .slice (some ⟨w0.heap.size, 0, none⟩) 1 1) (h1 : x.oneCell' = true) (h2 : y.oneCell' = true)
    (h63 : n + 1 ≤ 9223372036854775807) (hbytes : (n + 1) * bytes ≤ 140737488355328) (hbase : base ≤ w0.heap.size)
    (h : ∀ v' w', w'.ownsRow base e 2 v' (n + 1) (xs ++ [x, y]) → Below base w0 w' → wpList P ops Q rest (a.put o.dst v') w') :
    wpList P ops Q (o :: rest) a (w0.alloc (.cells #[x, y] e)) := by
  obtain ⟨i0, hi, hz0, hz1, hz2⟩ := info_parts hinfo
  refine wpList_append_own_at _ hgd s yy t ho base e i0 z 2 bytes ht hi hz0 hz1 hz2 hzc (by decide) v n xs hs (hown.alloc _) ⟨w0.heap.size, 0, none⟩ 1 1 [x, y] hy rfl ?_ (fun u hu => by simp at hu; rcases hu with rfl | rfl <;> assumption) (by unfold maxLen; omega) hbytes (by simp; omega) ?_
  · intro j u hu
    have e1 : (⟨w0.heap.size, 0, none⟩ : Addr).add j = ⟨w0.heap.size, j, none⟩ := by
      unfold Addr.add
      split
      · rename_i h; simp [h]
      · simp
    rw [e1, World.cell?_alloc_at _ _ _ _ rfl]
    simpa using hu
  · intro v' w' hown' hgrow _ hat
    exact h v' w' hown' (below_append (Below.refl base w0) hbase hown (Nat.le_refl _) hgrow)
end Go.Proofs.YthcabnfcgjnlnaaGreatDoor
/-
  PLAIN LAW of the chapter on layout: groups of columns, and the lines of all groups. No program in sight.
-/
set_option linter.unusedVariables false
set_option linter.unusedSimpArgs false
namespace Go.Proofs.YthcabnfcgjnlnaaGreatDoor.Lay
open Go.Proofs.YthcabnfcgjnlnaaGreatDoor Go.Proofs.YthcabnfcgjnlnaaGreatDoor.Ru

def Fit (c : List Int) (W : Int) (i : Nat) : Prop := 0 < i ∧ (gst c W i).2 ≤ W ∧ max (c.getD i 0) 0 ≤ W - (gst c W i).2 - 1
theorem gst_no {c : List Int} {W : Int} {i : Nat} (h : ¬ Fit c W i) : gst c W (i + 1) = ((gst c W i).1 ++ [(i, i + 1)], max (c.getD i 0) 0) := by
  exact if_neg h
theorem gst_yes {c : List Int} {W : Int} {i f e : Nat} {done : List (Nat × Nat)} (h : Fit c W i) (hg : (gst c W i).1 = done ++ [(f, e)]) :
    gst c W (i + 1) = (done ++ [(f, i + 1)], (gst c W i).2 + 1 + max (c.getD i 0) 0) := by
  refine (if_pos h).trans ?_
  rw [hg]
  simp
theorem gst_last {c : List Int} {W : Int} : ∀ i, 0 < i → ∃ done f, (gst c W i).1 = done ++ [(f, i)] ∧ f < i
  | 0, h => by omega
  | i + 1, _ => by
    by_cases h : Fit c W i
    · obtain ⟨done, f, hg, hf⟩ := gst_last i h.1
      exact ⟨done, f, by rw [gst_yes h hg], by omega⟩
    · exact ⟨_, i, by rw [gst_no h], by omega⟩
theorem gst_rng {c : List Int} {W M : Int} (hc : ∀ x ∈ c, x ≤ M) (hW : W ≤ M) (hM : 0 ≤ M) : ∀ i, 0 ≤ (gst c W i).2 ∧ (gst c W i).2 ≤ M
  | 0 => ⟨Int.le_refl _, hM⟩
  | i + 1 => by
    have ih := gst_rng hc hW hM i
    by_cases h : Fit c W i
    · obtain ⟨done, f, hg, hf⟩ := gst_last (c := c) (W := W) i h.1
      rw [gst_yes h hg]
      have h3 := h.2.2
      have h4 : 0 ≤ max (c.getD i 0) 0 := Int.le_max_right _ _
      constructor
      · show 0 ≤ (gst c W i).2 + 1 + _; omega
      · show (gst c W i).2 + 1 + _ ≤ M; omega
    · rw [gst_no h]
      refine ⟨Int.le_max_right _ _, ?_⟩
      show max (c.getD i 0) 0 ≤ M
      cases hi : c[i]? with
      | none => rw [List.getD, hi]; exact Int.max_le.2 ⟨hM, hM⟩
      | some x => rw [List.getD, hi]; exact Int.max_le.2 ⟨hc x (List.mem_of_getElem? hi), hM⟩
theorem gst_len {c : List Int} {W : Int} : ∀ i, (gst c W i).1.length ≤ i
  | 0 => Nat.le_refl _
  | i + 1 => by
    have ih := gst_len (c := c) (W := W) i
    by_cases h : Fit c W i
    · obtain ⟨done, f, hg, hf⟩ := gst_last (c := c) (W := W) i h.1
      rw [gst_yes h hg]
      rw [hg] at ih
      simp at ih ⊢
      omega
    · rw [gst_no h]
      simp
      omega
/-- The width of the n + 1 columns from f on. -/
def seg (c : List Int) (f : Nat) : Nat → Int
  | 0 => max (c.getD f 0) 0
  | n + 1 => seg c f n + 1 + max (c.getD (f + n + 1) 0) 0
/-- Where group j begins. -/
def startOf (l : List (Nat × Nat)) : Nat → Nat
  | 0 => 0
  | j + 1 => (l.getD j (0, 0)).2
/-- What holds of the groups of the first i columns. -/
structure GOk (c : List Int) (W : Int) (i : Nat) (l : List (Nat × Nat)) (u : Int) : Prop where
  each : ∀ j f e, l[j]? = some (f, e) → f < e ∧ e ≤ i ∧ f = startOf l j ∧ (1 < e - f → seg c f (e - f - 1) ≤ W) ∧ (j + 1 < l.length → ¬ (seg c f (e - f - 1) + 1 + max (c.getD e 0) 0 ≤ W))
  last : startOf l l.length = i
  wide : ∀ f e, l.getLast? = some (f, e) → u = seg c f (e - f - 1)
  none_ : l = [] → i = 0
theorem getD_of_some {α : Type} {l : List α} {j : Nat} {x d : α} (h : l[j]? = some x) : l.getD j d = x := by rw [List.getD, h]; rfl
theorem startOf_app {l m : List (Nat × Nat)} {j : Nat} (h : j ≤ l.length) : startOf (l ++ m) j = startOf l j := by
  cases j with
  | zero => rfl
  | succ j =>
    show ((l ++ m).getD j (0, 0)).2 = (l.getD j (0, 0)).2
    rw [List.getD, List.getD, List.getElem?_append_left (by omega)]
theorem gst_ok (c : List Int) (W : Int) : ∀ i, GOk c W i (gst c W i).1 (gst c W i).2
  | 0 => ⟨fun j f e h => by simp [gst] at h, rfl, fun f e h => by simp [gst] at h, fun _ => rfl⟩
  | i + 1 => by
    have ih := gst_ok c W i
    by_cases h : Fit c W i
    · obtain ⟨done, f, hg, hf⟩ := gst_last (c := c) (W := W) i h.1
      have hu := ih.wide f i (by rw [hg]; simp)
      rw [hg] at ih
      have hlast := ih.each done.length f i (by simp)
      rw [gst_yes h hg]
      have hseg : (gst c W i).2 + 1 + max (c.getD i 0) 0 = seg c f (i + 1 - f - 1) := by
        rw [hu, show i + 1 - f - 1 = (i - f - 1) + 1 by omega]
        show _ = seg c f (i - f - 1) + 1 + max (c.getD (f + (i - f - 1) + 1) 0) 0
        rw [show f + (i - f - 1) + 1 = i by omega]
      refine ⟨fun j f' e hj => ?_, ?_, fun f' e hl => ?_, fun h0 => by simp at h0⟩
      · by_cases hjd : j < done.length
        · rw [List.getElem?_append_left hjd] at hj
          obtain ⟨a1, a2, a3, a4, a5⟩ := ih.each j f' e (by rw [List.getElem?_append_left hjd]; exact hj)
          refine ⟨a1, by omega, ?_, a4, fun _ => a5 (by simp; omega)⟩
          rw [startOf_app (by omega)]
          rw [startOf_app (by omega)] at a3
          exact a3
        · rw [List.getElem?_append_right (by omega)] at hj
          have hj0 : j - done.length = 0 := by
            have := (List.getElem?_eq_some_iff.1 hj).1
            simp at this
            omega
          rw [hj0] at hj
          simp at hj
          obtain ⟨rfl, rfl⟩ := hj
          obtain rfl : j = done.length := by omega
          refine ⟨by omega, Nat.le_refl _, ?_, fun _ => ?_, fun hlt => by simp at hlt⟩
          · have := hlast.2.2.1
            rw [startOf_app (Nat.le_refl _)] at this ⊢
            exact this
          · rw [← hseg]
            have := h.2.2
            omega
      · rw [List.length_append]
        show (((done ++ [(f, i + 1)]).getD done.length (0, 0))).2 = _
        rw [getD_of_some (x := (f, i + 1)) (by simp)]
      · rw [List.getLast?_append] at hl
        simp at hl
        obtain ⟨rfl, rfl⟩ := hl
        exact hseg
    · rw [gst_no h]
      refine ⟨fun j f' e hj => ?_, ?_, fun f' e hl => ?_, fun h0 => by simp at h0⟩
      · by_cases hjd : j < (gst c W i).1.length
        · rw [List.getElem?_append_left hjd] at hj
          obtain ⟨a1, a2, a3, a4, a5⟩ := ih.each j f' e hj
          refine ⟨a1, by omega, by rw [startOf_app (by omega)]; exact a3, a4, fun hlt => ?_⟩
          by_cases hj1 : j + 1 < (gst c W i).1.length
          · exact a5 hj1
          · have hlst : (gst c W i).1.getLast? = some (f', e) := by
              rw [List.getLast?_eq_getElem?, show (gst c W i).1.length - 1 = j by omega]
              exact hj
            have hi0 : 0 < i := by omega
            obtain ⟨done, f, hg, hf⟩ := gst_last (c := c) (W := W) i hi0
            have he : e = i := by
              rw [hg] at hlst
              simp at hlst
              omega
            subst he
            rw [← ih.wide f' e hlst]
            intro hle
            refine h ⟨hi0, ?_, ?_⟩
            · have : 0 ≤ max (c.getD e 0) 0 := Int.le_max_right _ _
              omega
            · omega
        · rw [List.getElem?_append_right (by omega)] at hj
          have hj0 : j - (gst c W i).1.length = 0 := by
            have := (List.getElem?_eq_some_iff.1 hj).1
            simp at this
            omega
          rw [hj0] at hj
          simp at hj
          obtain ⟨rfl, rfl⟩ := hj
          obtain rfl : j = (gst c W i).1.length := by omega
          refine ⟨by omega, Nat.le_refl _, ?_, fun hgt => by omega, fun hlt => by simp at hlt⟩
          rw [startOf_app (Nat.le_refl _)]
          exact ih.last.symm
      · rw [List.length_append]
        show ((((gst c W i).1 ++ [(i, i + 1)]).getD (gst c W i).1.length (0, 0))).2 = _
        rw [getD_of_some (x := (i, i + 1)) (by simp)]
      · rw [List.getLast?_append] at hl
        simp at hl
        obtain ⟨rfl, rfl⟩ := hl
        rw [show i + 1 - i - 1 = 0 by omega]
        rfl
theorem groups_ok (c : List Int) (W : Int) : GOk c W c.length (groups c W) (gst c W c.length).2 := gst_ok c W c.length
theorem groups_pos {c : List Int} {W : Int} (hc : 0 < c.length) : 0 < (groups c W).length := by
  have := (groups_ok c W).none_
  cases h : groups c W with
  | nil => have := this h; omega
  | cons x t => simp
theorem groups_len (c : List Int) (W : Int) : (groups c W).length ≤ c.length := gst_len _

/- The lines of all groups. -/
theorem alignL_len (L : List (List ByteArray)) : (alignL L).length = L.length := by unfold alignL; simp
theorem wrapG_len {f : Nat × Nat → List ByteArray} {G : List (Nat × Nat)} {m : Nat} (hf : ∀ g, (f g).length = m) : ∀ i, (wrapG f G (i + 1)).length = (i + 1) * m + i
  | 0 => by simp [wrapG, hf]
  | i + 1 => by
    show (wrapG f G (i + 1) ++ (if 0 < i + 1 then [(⟨#[]⟩ : ByteArray)] else []) ++ f _).length = _
    rw [List.length_append, List.length_append, wrapG_len hf i, hf, if_pos (by omega)]
    simp [Nat.add_mul]
    omega
theorem wrapL_len {L : List (List ByteArray)} {W : Int} (h : 0 < nmax L) : (wrapL L W).length = (groups (cols L) W).length * L.length + (groups (cols L) W).length - 1 := by
  have hp := groups_pos (c := cols L) (W := W) (by rw [cols_len]; exact h)
  unfold wrapL
  obtain ⟨n, hn⟩ : ∃ n, (groups (cols L) W).length = n + 1 := ⟨(groups (cols L) W).length - 1, by omega⟩
  rw [hn, wrapG_len (m := L.length) (fun g => by rw [alignL_len]; unfold partP; simp)]
  omega
theorem wrapL_none {L : List (List ByteArray)} {W : Int} (h : nmax L = 0) : wrapL L W = [] := by
  have h1 : (cols L).length = 0 := by rw [cols_len]; exact h
  have h2 : (groups (cols L) W).length = 0 := by have := groups_len (cols L) W; omega
  unfold wrapL
  rw [h2]
  rfl
/- The two cuts of the rows give the same lines. -/
end Go.Proofs.YthcabnfcgjnlnaaGreatDoor.Lay
/-
  Groups, and that of the reference.
-/
namespace Go.Proofs.YthcabnfcgjnlnaaGreatDoor
open Go.RowKit Ru Lay
set_option linter.unusedVariables false
set_option linter.unusedSimpArgs false

theorem getD_at {α : Type} {l : List α} {k : Nat} {x d : α} (h : l[k]? = some x) : l.getD k d = x := by rw [List.getD, h]; rfl
set_option maxHeartbeats 4000000 in
set_option maxRecDepth 100000 in
theorem groups_any (A : Option Addr) (n c : Nat) (l : List Int) (W : Int) (w : World) (h : IR w w.heap.size A n l) (hn : n ≤ 100000) (hl : ∀ x ∈ l, x ≤ 9223372036854775807) (hW : W ≤ 9223372036854775807) :
    Calls Tryz.prog 70 #[.slice A n c, .int .i64 W] w fun e w' => ∃ v, e = .returned v ∧ OwnG w' w.heap.size v (groups l W) ∧ Below w.heap.size w w' := by
  have HL := Lib.hid h
  have HLN := Lib.hid h.len
  have HRG := Lib.hid (gst_rng (c := l) (W := W) (M := 9223372036854775807) hl hW (by omega))
  clear h hl
  go_enter Tryz.func70, Tryz.ntmps70
  go_wp2_with fail
  go_loopw [5, 6] (fun v5 v6 wr => ∃ f : Nat, f ≤ n ∧ v6 = .int .i64 f ∧ Hid (OwnG wr w.heap.size v5 (gst l W f).1) ∧ Hid (f < n → ¬ Fit l W f) ∧ Hid (Below w.heap.size w wr)) (fun _ v6 _ => n - (intOf v6).toNat)
  case atStart => exact ⟨0, Nat.zero_le _, rfl, OwnG.nil _ _, fun _ hf => Nat.lt_irrefl _ hf.1, Below.refl _ _⟩
  case round =>
    obtain ⟨f, hf, rfl, HO, HNF, HB⟩ := hrel
    obtain ⟨w0, hw0⟩ : ∃ w0, w0 = wr := ⟨_, rfl⟩
    rw [← hw0] at HO HB ⊢
    clear hw0
    by_cases hlt : f < n
    · have hfz : (f : Int) < (n : Int) := by omega
      have hfA : (0 : Int) ≤ (f : Int) := by omega
      obtain ⟨ad, x, rfl, hadb, hx, hcx⟩ := HL.out.at_ hlt
      have HC : Hid (∀ W', Below w.heap.size w W' → W'.cell? (ad.add f) = some (.int .i64 x)) := fun W' hb => (hb.cell (by rw [block_of_add]; exact hadb)).trans hcx
      have hcx0 := HC.out _ HB.out
      have HG1 : Hid (gst l W (f + 1) = ((gst l W f).1 ++ [(f, f + 1)], max x 0)) := by
        show _ = _
        rw [gst_no (HNF.out hlt), getD_at hx]
      have hgl := gst_len (c := l) (W := W) f
      obtain ⟨G, hG⟩ : ∃ G, (gst l W f).1 = G := ⟨_, rfl⟩
      rw [hG] at HO HG1 hgl
      clear hx hcx hG
      have hcq : ∀ p : BW w0, p.at_.cell? (ad.add f) = some (.int .i64 x) := fun p => HC.out _ (HB.out.trans (p.bel.mono HB.out.size))
      go_wp2_with fail
      refine wp_region_quiet_below (by kernel_rfl) (by kernel_rfl) ?_
      repeat (go_big_quiet_step (fail))
      refine wpQuiet_nil ?_
      intro w1 hw'
      have hb1 := bw_below hw'
      have HB2 : Hid (Below w.heap.size w w1) := HB.out.trans (hb1.mono HB.out.size)
      have HO2 : Hid (w1.ownsRow w.heap.size 108 2 _ G.length (pairV G)) := own_below HO.out hb1
      have hszw := HB2.out.size
      clear hcq hw' hb1 hcx0 HO HB
      go_wp2_with fail
      go_loop [7, 8] (fun v7 v8 => ∃ t : Nat, f < t ∧ t ≤ n ∧ v7 = .int .i64 t ∧ v8 = .int .i64 (gst l W t).2 ∧ Hid ((gst l W t).1 = G ++ [(f, t)])) (fun v7 _ => n - (intOf v7).toNat)
      case atStart => exact ⟨f + 1, by omega, by omega, by go_num, by rw [HG1.out], by show _ = _; rw [HG1.out]⟩
      case round =>
        obtain ⟨t, ht1, ht2, rfl, rfl, HG⟩ := hrel
        obtain ⟨hu0, hu1⟩ := HRG.out t
        obtain ⟨u, hu⟩ : ∃ u, (gst l W t).2 = u := ⟨_, rfl⟩
        have HU := Lib.hid hu
        rw [hu] at hu0 hu1 ⊢
        clear hu
        by_cases htn : t < n
        · have htz : (t : Int) < (n : Int) := by omega
          have htA : (0 : Int) ≤ (t : Int) := by omega
          obtain ⟨ad', y, e', hyb, hy, hcy⟩ := HL.out.at_ htn
          cases e'
          have hcy1 : w1.cell? (ad.add t) = some (.int .i64 y) := (HB2.out.cell (by rw [block_of_add]; exact hyb)).trans hcy
          have HY : Hid (l.getD t 0 = y) := getD_at hy
          clear hy hcy
          by_cases hf1 : u ≤ W
          · have hd1 : decide (u ≤ W) = true := decide_eq_true hf1
            by_cases hf2 : max y 0 ≤ W - u - 1
            · have hd2 : decide (max y 0 ≤ W - u - 1) = true := decide_eq_true hf2
              have hmx : 0 ≤ max y 0 := Int.le_max_right _ _
              have HFIT : Hid (Fit l W t) := ⟨by omega, by rw [HU.out]; exact hf1, by rw [HY.out, HU.out]; exact hf2⟩
              have HGN : Hid (gst l W (t + 1) = (G ++ [(f, t + 1)], u + 1 + max y 0)) := by show _ = _; rw [gst_yes HFIT.out HG.out, HU.out, HY.out]
              go_wp2
              go_round
              case rel => exact ⟨t + 1, by omega, by omega, by go_num, by rw [HGN.out]; exact congrArg (Value.int .i64) (by omega), by show _ = _; rw [HGN.out]⟩
              case measure => simp [intOf]; omega
            · have hd2 : decide (max y 0 ≤ W - u - 1) = false := decide_eq_false hf2
              have HFT : Hid (t < n → ¬ Fit l W t) := fun _ hf => hf2 (by have h3 := hf.2.2; rw [HY.out, HU.out] at h3; exact h3)
              go_wp2_with (at_builtin; refine wpList_app2 rfl (.tmp 51) (.tmp 55) 105 rfl w.heap.size 108 16 _ info_pair rfl Tryz.underlying105 rfl HO2.out rfl rfl rfl (by omega) (by omega) hszw ?_; intro v7 w2 hown7 hb7)
              have HO3 : Hid (OwnG w2 w.heap.size v7 (gst l W t).1) := by
                show World.ownsRow _ _ _ _ _ _ _
                rw [HG.out, List.length_append, List.length_singleton, pairV_app]
                exact hown7
              have HB3 : Hid (Below w.heap.size w w2) := HB2.out.trans hb7
              clear hown7 hb7
              go_wp2
              go_roundw
              case rel => exact ⟨t, by omega, rfl, HO3, HFT, HB3⟩
              case measure => simp [intOf]; omega
          · have hd1 : decide (u ≤ W) = false := decide_eq_false hf1
            have HFT : Hid (t < n → ¬ Fit l W t) := fun _ hf => hf1 (by have h3 := hf.2.1; rw [HU.out] at h3; exact h3)
            go_wp2_with (at_builtin; refine wpList_app2 rfl (.tmp 51) (.tmp 55) 105 rfl w.heap.size 108 16 _ info_pair rfl Tryz.underlying105 rfl HO2.out rfl rfl rfl (by omega) (by omega) hszw ?_; intro v7 w2 hown7 hb7)
            have HO3 : Hid (OwnG w2 w.heap.size v7 (gst l W t).1) := by
              show World.ownsRow _ _ _ _ _ _ _
              rw [HG.out, List.length_append, List.length_singleton, pairV_app]
              exact hown7
            have HB3 : Hid (Below w.heap.size w w2) := HB2.out.trans hb7
            clear hown7 hb7
            go_wp2
            go_roundw
            case rel => exact ⟨t, by omega, rfl, HO3, HFT, HB3⟩
            case measure => simp [intOf]; omega
        · have htz : ¬ (t : Int) < (n : Int) := by omega
          have HFT : Hid (t < n → ¬ Fit l W t) := fun h => absurd h htn
          go_wp2_with (at_builtin; refine wpList_app2 rfl (.tmp 51) (.tmp 55) 105 rfl w.heap.size 108 16 _ info_pair rfl Tryz.underlying105 rfl HO2.out rfl rfl rfl (by omega) (by omega) hszw ?_; intro v7 w2 hown7 hb7)
          have HO3 : Hid (OwnG w2 w.heap.size v7 (gst l W t).1) := by
            show World.ownsRow _ _ _ _ _ _ _
            rw [HG.out, List.length_append, List.length_singleton, pairV_app]
            exact hown7
          have HB3 : Hid (Below w.heap.size w w2) := HB2.out.trans hb7
          clear hown7 hb7
          go_wp2
          go_roundw
          case rel => exact ⟨t, by omega, rfl, HO3, HFT, HB3⟩
          case measure => simp [intOf]; omega
    · obtain rfl : n = f := by omega
      have hfz : ¬ (n : Int) < (n : Int) := by omega
      have h0 := HO.out
      have h1 : (gst l W n).1 = groups l W := by unfold groups; rw [HLN.out]
      rw [h1] at h0
      have HO5 := Lib.hid h0
      clear h0 h1
      go_wp2
      go_ret
      exact ⟨_, rfl, HO5.out, HB.out⟩
end Go.Proofs.YthcabnfcgjnlnaaGreatDoor
