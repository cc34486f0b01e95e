/-
  ROWS OF PAIRS OF INTEGERS ([][2]int): read, and owned by the call.
-/
import Derived.Test.YtacfeabdeaikhaaDoorGrid
import Derived.Deep.LoopGhost
namespace Go.Proofs.YtacfeabdeaikhaaDoor
open Go.RowKit Ru Lay
set_option linter.unusedVariables false
set_option linter.unusedSimpArgs false

def pairV (l : List (Nat × Nat)) : List Value := l.flatMap fun p => [Value.int .i64 (p.1 : Int), Value.int .i64 (p.2 : Int)]
theorem pairV_app (l : List (Nat × Nat)) (p : Nat × Nat) : pairV (l ++ [p]) = pairV l ++ [.int .i64 (p.1 : Int), .int .i64 (p.2 : Int)] := by unfold pairV; simp
theorem pairV_len (l : List (Nat × Nat)) : (pairV l).length = l.length * 2 := by
  induction l with
  | nil => rfl
  | cons p t ih =>
    show (List.length ([_, _] ++ pairV t)) = _
    rw [List.length_append, ih]
    simp
    omega
theorem pairV_at {l : List (Nat × Nat)} {k : Nat} {p : Nat × Nat} (h : l[k]? = some p) : (pairV l)[k * 2]? = some (.int .i64 (p.1 : Int)) ∧ (pairV l)[k * 2 + 1]? = some (.int .i64 (p.2 : Int)) := by
  induction l generalizing k with
  | nil => simp at h
  | cons q t ih =>
    cases k with
    | zero =>
      simp at h
      subst h
      exact ⟨rfl, rfl⟩
    | succ k =>
      rw [List.getElem?_cons_succ] at h
      obtain ⟨h1, h2⟩ := ih h
      have e : pairV (q :: t) = .int .i64 (q.1 : Int) :: .int .i64 (q.2 : Int) :: pairV t := rfl
      rw [e, show (k + 1) * 2 = k * 2 + 1 + 1 by omega]
      exact ⟨h1, h2⟩
theorem info_pair : (Tryd.prog.info? 40).map (fun i => (i.zero, i.size, i.bytes)) = some (some (.agg #[.int .i64 0, .int .i64 0]), 2, 16) := by kernel_rfl
/-- A row of pairs of the call's own. -/
def OwnG (w : World) (base : Nat) (v : Value) (l : List (Nat × Nat)) : Prop := w.ownsRow base 40 2 v l.length (pairV l)
theorem OwnG.nil (w : World) (base : Nat) : OwnG w base (.slice none 0 0) [] := World.ownsRow_nil _ _ _ _
theorem OwnG.on {w w' : World} {base : Nat} {v : Value} {l : List (Nat × Nat)} (h : OwnG w base v l) (hb : Below w.heap.size w w') : OwnG w' base v l := own_below h hb
/-- A row of pairs, as it is read. -/
def GR (w : World) (B : Nat) (A : Option Addr) (n : Nat) (l : List (Nat × Nat)) : Prop := Reads w B 2 A n (pairV l) ∧ l.length = n
theorem GR.on {w w' : World} {n : Nat} {A : Option Addr} {l : List (Nat × Nat)} (h : GR w w.heap.size A n l) (hb : Below w.heap.size w w') : GR w' w'.heap.size A n l := ⟨Reads.on h.1 hb, h.2⟩
theorem field_at {w : World} {p : Addr} {i : Nat} {v : Value} (hi : 0 < i) (h : w.cell? (p.add i) = some v) : w.cell? ⟨p.block, p.off + i, none⟩ = some v := by
  unfold Addr.add at h
  rw [if_neg (by omega)] at h
  exact h
theorem GR.at_ {w : World} {B n k : Nat} {A : Option Addr} {l : List (Nat × Nat)} (h : GR w B A n l) (hk : k < n) :
    ∃ ad p, A = some ad ∧ ad.block < B ∧ l[k]? = some p ∧ w.cell? (ad.add (k * 2)) = some (.int .i64 (p.1 : Int)) ∧ w.cell? ⟨(ad.add (k * 2)).block, (ad.add (k * 2)).off + 1, none⟩ = some (.int .i64 (p.2 : Int)) := by
  obtain ⟨ad, e, hb, hc⟩ := h.1.2 (by omega)
  have hlt : k < l.length := by have := h.2; omega
  have hp : l[k]? = some l[k] := List.getElem?_eq_getElem hlt
  obtain ⟨h1, h2⟩ := pairV_at hp
  refine ⟨ad, l[k], e, hb, hp, hc _ _ h1, field_at (by omega) ?_⟩
  rw [add_of_add]
  exact hc _ _ h2
theorem OwnG.form {w : World} {base : Nat} {v : Value} {l : List (Nat × Nat)} (h : OwnG w base v l) : ∃ A c, v = .slice A l.length c ∧ GR w w.heap.size A l.length l := by
  rcases h.2 with ⟨rfl, h0⟩ | ⟨g, cap, cur, rfl, hg, hh, hn, hm, hs, ht⟩
  · rw [h0]
    exact ⟨none, 0, rfl, ⟨by rw [pairV_len, h0], fun hh => by omega⟩, h0⟩
  · exact ⟨some ⟨g, 0, none⟩, cap, rfl, ⟨h.1, fun _ => ⟨_, rfl, (h.lt g rfl).2, h.cells (g := g) rfl⟩⟩, rfl⟩
theorem OwnG.last {w : World} {base : Nat} {v : Value} {l : List (Nat × Nat)} {p : Nat × Nat} (h : OwnG w base v (l ++ [p])) :
    ∃ g cap, v = .slice (some ⟨g, 0, none⟩) (l.length + 1) cap ∧ base ≤ g ∧ g < w.heap.size ∧ w.frozen? ⟨g, l.length * 2 + 1, none⟩ = false ∧ w.cell? ⟨g, l.length * 2 + 1, none⟩ = some (.int .i64 (p.2 : Int)) ∧ ∀ x : Nat,
      OwnG (w.setCell ⟨g, l.length * 2 + 1, none⟩ (.int .i64 (x : Int))) base v (l ++ [(p.1, x)]) ∧ Below base w (w.setCell ⟨g, l.length * 2 + 1, none⟩ (.int .i64 (x : Int))) := by
  have h0 := h
  unfold OwnG at h0
  rw [List.length_append, List.length_singleton] at h0
  obtain ⟨g, cap, rfl, h1, h2⟩ := World.ownsRow.form h0 (by omega)
  refine ⟨g, cap, rfl, h1, h2, World.ownsRow.frozenAt h0 _, ?_, fun x => ?_⟩
  · rw [World.ownsRow.cellAt h0 _ (by omega)]
    exact (pairV_at (k := l.length) (p := p) (by simp)).2
  · have hs := World.ownsRow.stored h0 (l.length * 2 + 1) (.int .i64 (x : Int))
    have e1 : (pairV (l ++ [p])).set (l.length * 2 + 1) (.int .i64 (x : Int)) = pairV (l ++ [(p.1, x)]) := by
      rw [pairV_app, pairV_app, List.set_append_right _ _ (by rw [pairV_len]; omega), pairV_len]
      simp
    rw [e1] at hs
    refine ⟨?_, (Below.refl _ _).grown hs.2 (Nat.le_of_lt (Nat.lt_of_le_of_lt h1 h2)) fun k hk => by cases hk; exact h1⟩
    show World.ownsRow _ _ _ _ _ _ _
    rw [List.length_append, List.length_singleton]
    exact hs.1
/-- 'append(s, [2]int{x, y})' onto a row of the call's own: the pair has just been laid in a block of its own. -/
theorem wpList_app2 {P : Program} {ops : Array Oper} {rest : List Oper} {o : Oper} {a : Act} {Q : Exit → Act → World → Prop} {w0 : World} {x y : Value} (hgd : o.guard = none) (s yy : Operand) (t : TypeId)
    (ho : o.op = .call { callee := .builtin .append, args := #[s, yy], argTypes := #[t, t] })
    (base : Nat) (e : TypeId) (bytes : Nat) (z : Value) (hinfo : (P.info? e).map (fun i => (i.zero, i.size, i.bytes)) = some (some z, 2, bytes)) (hzc : z.cells.size = 2) (ht : P.underlying t = some (.slice e))
    {v : Value} {n : Nat} {xs : List Value} (hs : a.eval s = v) (hown : w0.ownsRow base e 2 v n xs) (hy : a.eval yy = .slice (some ⟨w0.heap.size, 0, none⟩) 1 1) (h1 : x.oneCell' = true) (h2 : y.oneCell' = true)
    (h63 : n + 1 ≤ 9223372036854775807) (hbytes : (n + 1) * bytes ≤ 140737488355328) (hbase : base ≤ w0.heap.size)
    (h : ∀ v' w', w'.ownsRow base e 2 v' (n + 1) (xs ++ [x, y]) → Below base w0 w' → wpList P ops Q rest (a.put o.dst v') w') :
    wpList P ops Q (o :: rest) a (w0.alloc (.cells #[x, y] e)) := by
  obtain ⟨i0, hi, hz0, hz1, hz2⟩ := info_parts hinfo
  refine wpList_append_own_at _ hgd s yy t ho base e i0 z 2 bytes ht hi hz0 hz1 hz2 hzc (by decide) v n xs hs (hown.alloc _) ⟨w0.heap.size, 0, none⟩ 1 1 [x, y] hy rfl ?_ (fun u hu => by simp at hu; rcases hu with rfl | rfl <;> assumption) (by unfold maxLen; omega) hbytes (by simp; omega) ?_
  · intro j u hu
    have e1 : (⟨w0.heap.size, 0, none⟩ : Addr).add j = ⟨w0.heap.size, j, none⟩ := by
      unfold Addr.add
      split
      · rename_i h; simp [h]
      · simp
    rw [e1, World.cell?_alloc_at _ _ _ _ rfl]
    simpa using hu
  · intro v' w' hown' hgrow _ hat
    exact h v' w' hown' (below_append (Below.refl base w0) hbase hown (Nat.le_refl _) hgrow)
end Go.Proofs.YtacfeabdeaikhaaDoor
