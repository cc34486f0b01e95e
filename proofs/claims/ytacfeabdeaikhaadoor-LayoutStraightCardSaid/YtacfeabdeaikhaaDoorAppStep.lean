/-
  One append onto a row of the call's own, its source a slice that reads as a list (nil let in): at a step of a region that draws its order, and in a plain region's list.
-/
import Derived.Test.YtacfeabdeaikhaaDoorOpAppend
import Derived.Test.YtacfeabdeaikhaaDoorOwn
import Derived.OwnWalk
namespace Go.Proofs.YtacfeabdeaikhaaDoor
open Go Go.RowKit
set_option linter.unusedVariables false
variable {P : Program} {Q : Exit → Act → World → Prop}

/-- An append of nil hands back what it got. -/
theorem append_nil_run (w : World) (base : Nat) (t ty e : TypeId) (i : TypeInfo) (size : Nat) (ht : P.underlying t = some (.slice e)) (hi : P.info? e = some i) {v : Value} {n : Nat} {xs : List Value}
    (hown : w.ownsRow base e size v n xs) (c : Nat) : (Builtin.append_ #[t, t] ty #[v, .slice none 0 c]).run P w = .ok v w := by
  rcases hown.2 with ⟨hv, hn⟩ | ⟨g, cap, cur, hv, _, _, hle, _⟩
  · subst hv hn
    simp [Builtin.append_, run_underlying ht, sizeOf, typeInfo, hi, Builtin.lenOf, Builtin.firstCells]
  · subst hv
    simp [Builtin.append_, run_underlying ht, sizeOf, typeInfo, hi, Builtin.lenOf, Builtin.firstCells, hle, storeCells]
theorem reads_none {w : World} {B size n : Nat} {xs : List Value} (hr : Reads w B size none n xs) : n = 0 ∧ xs = [] := by
  have hn : n = 0 := by
    rcases Nat.eq_zero_or_pos n with h | h
    · exact h
    · obtain ⟨_, hc, _⟩ := hr.2 h
      cases hc
  exact ⟨hn, List.eq_nil_of_length_eq_zero (by rw [hr.1, hn, Nat.zero_mul])⟩
theorem oper_app {o : Oper} {a : Act} {w : World} {K : Act → World → Prop} (s x : Operand) (t : TypeId)
    (ho : o.op = .call { callee := .builtin .append, args := #[s, x], argTypes := #[t, t] })
    (base : Nat) (e : TypeId) (bytes : Nat) (z : Value) (hinfo : (P.info? e).map (fun i => (i.zero, i.size, i.bytes)) = some (some z, 1, bytes)) (hzc : z.cells.size = 1) (ht : P.underlying t = some (.slice e))
    {v : Value} {n : Nat} {xs : List Value} (hs : a.eval s = v) (hown : w.ownsRow base e 1 v n xs)
    {B : Nat} {A : Option Addr} {m c : Nat} {news : List Value} (hx : a.eval x = .slice A m c) (hr : Reads w B 1 A m news) (h1 : ∀ u ∈ news, u.oneCell' = true)
    (h63 : n + m ≤ 9223372036854775807) (hbytes : (n + m) * bytes ≤ 140737488355328) (hbase : base ≤ w.heap.size)
    (h : ∀ v' w', w'.ownsRow base e 1 v' (n + m) (xs ++ news) → w.grownBy w' v.ownBlock → (v'.ownBlock = v.ownBlock ∨ v'.ownBlock = some w.heap.size) → K (a.put o.dst v') w') :
    o.wp P a w K Q := by
  obtain ⟨i0, hi, hz0, hz1, hz2⟩ := info_parts hinfo
  cases A with
  | none =>
    obtain ⟨h2, h3⟩ := reads_none hr
    subst h2 h3
    have hrun := append_nil_run (P := P) w base t o.type e i0 1 ht hi hown c
    unfold Oper.wp execOp
    simp only [ho, resolve, invoke, builtin, Sem.run_bind, Sem.run_pure, Result.andThen_ok, List.map_toArray, List.map_cons, List.map_nil, hs, hx, hrun]
    exact h v w (by simpa using hown) (World.grownBy.refl w _) (.inl rfl)
  | some ad =>
    have hc : ∀ j u, news[j]? = some u → w.cell? (ad.add j) = some u := by
      intro j u hu
      have hj := (List.getElem?_eq_some_iff.1 hu).1
      have hl := hr.1
      obtain ⟨ad', h2, _, h3⟩ := hr.2 (by omega)
      cases h2
      exact h3 j u hu
    exact oper_append_own s x t ho base e i0 z 1 bytes ht hi hz0 hz1 hz2 hzc (by decide) v n xs hs hown ad m c news hx hr.1 hc h1 (by unfold maxLen; omega) hbytes hbase fun v' w' h2 h3 _ h4 => h v' w' h2 h3 h4
theorem step_app {ops : Array Oper} {o : Oper} {a : Act} {w : World} {K : Act → World → Prop} {E : Prop} (hgd : o.guard = none) (s x : Operand) (t : TypeId)
    (ho : o.op = .call { callee := .builtin .append, args := #[s, x], argTypes := #[t, t] })
    (base : Nat) (e : TypeId) (bytes : Nat) (z : Value) (hinfo : (P.info? e).map (fun i => (i.zero, i.size, i.bytes)) = some (some z, 1, bytes)) (hzc : z.cells.size = 1) (ht : P.underlying t = some (.slice e))
    {v : Value} {n : Nat} {xs : List Value} (hs : a.eval s = v) (hown : w.ownsRow base e 1 v n xs)
    {B : Nat} {A : Option Addr} {m c : Nat} {news : List Value} (hx : a.eval x = .slice A m c) (hr : Reads w B 1 A m news) (h1 : ∀ u ∈ news, u.oneCell' = true)
    (h63 : n + m ≤ 9223372036854775807) (hbytes : (n + m) * bytes ≤ 140737488355328) (hbase : base ≤ w.heap.size)
    (h : ∀ v' w', w'.ownsRow base e 1 v' (n + m) (xs ++ news) → w.grownBy w' v.ownBlock → (v'.ownBlock = v.ownBlock ∨ v'.ownBlock = some w.heap.size) → K (a.put o.dst v') w') :
    if Region.wanted o (yielded ops a.tmps) = true then Oper.wp P o a w K Q else E := by
  have hw : Region.wanted o (yielded ops a.tmps) = true := by simp [Region.wanted, hgd]
  rw [if_pos hw]
  exact oper_app s x t ho base e bytes z hinfo hzc ht hs hown hx hr h1 h63 hbytes hbase h
theorem wpList_app {ops : Array Oper} {rest : List Oper} {o : Oper} {a : Act} {w : World} (hgd : o.guard = none) (s x : Operand) (t : TypeId)
    (ho : o.op = .call { callee := .builtin .append, args := #[s, x], argTypes := #[t, t] })
    (base : Nat) (e : TypeId) (bytes : Nat) (z : Value) (hinfo : (P.info? e).map (fun i => (i.zero, i.size, i.bytes)) = some (some z, 1, bytes)) (hzc : z.cells.size = 1) (ht : P.underlying t = some (.slice e))
    {v : Value} {n : Nat} {xs : List Value} (hs : a.eval s = v) (hown : w.ownsRow base e 1 v n xs)
    {B : Nat} {A : Option Addr} {m c : Nat} {news : List Value} (hx : a.eval x = .slice A m c) (hr : Reads w B 1 A m news) (h1 : ∀ u ∈ news, u.oneCell' = true)
    (h63 : n + m ≤ 9223372036854775807) (hbytes : (n + m) * bytes ≤ 140737488355328) (hbase : base ≤ w.heap.size)
    (h : ∀ v' w', w'.ownsRow base e 1 v' (n + m) (xs ++ news) → w.grownBy w' v.ownBlock → (v'.ownBlock = v.ownBlock ∨ v'.ownBlock = some w.heap.size) → wpList P ops Q rest (a.put o.dst v') w') :
    wpList P ops Q (o :: rest) a w :=
  wpList_plain hgd fun _ hK => oper_app s x t ho base e bytes z hinfo hzc ht hs hown hx hr h1 h63 hbytes hbase fun v' w' h2 h3 h4 => hK _ _ (h v' w' h2 h3 h4)

/-- A new block without cells is an empty row. -/
theorem own_empty {W : World} {base b e size : Nat} (hb : W.heap.size = b) (h : base ≤ b) : (W.alloc (.cells #[] e)).ownsRow base e size (.slice (some ⟨b, 0, none⟩) 0 0) 0 [] := by
  subst hb
  exact World.ownsRow_made W #[] 0 h (by unfold maxLen; omega) (by simp)
/-- A new block of one cell reads as that cell. -/
theorem reads_one {W : World} {b e : Nat} {x : Value} (hb : W.heap.size = b) : Reads (W.alloc (.cells #[x] e)) (b + 1) 1 (some ⟨b, 0, none⟩) 1 [x] := by
  subst hb
  refine ⟨rfl, fun _ => ⟨_, rfl, by simp, fun j u hu => ?_⟩⟩
  obtain rfl : j = 0 := by
    have := (List.getElem?_eq_some_iff.1 hu).1
    simp at this
    omega
  simp at hu
  subst hu
  have e1 : (⟨W.heap.size, 0, none⟩ : Addr).add 0 = ⟨W.heap.size, 0, none⟩ := by simp [Addr.add]
  rw [e1, World.cell?_alloc_at _ _ _ _ rfl]
  rfl

/-- A block of one cell, apart from a row. -/
def Item (W : World) (b : Nat) (x v : Value) : Prop := W.cell? ⟨b, 0, none⟩ = some x ∧ b < W.heap.size ∧ v.ownBlock ≠ some b
theorem Item.reads {W : World} {b : Nat} {x v : Value} (h : Item W b x v) : Reads W W.heap.size 1 (some ⟨b, 0, none⟩) 1 [x] := by
  refine ⟨rfl, fun _ => ⟨_, rfl, h.2.1, fun j u hu => ?_⟩⟩
  obtain rfl : j = 0 := by
    have := (List.getElem?_eq_some_iff.1 hu).1
    simp at this
    omega
  simp at hu
  subst hu
  have e1 : (⟨b, 0, none⟩ : Addr).add 0 = ⟨b, 0, none⟩ := by simp [Addr.add]
  rw [e1]
  exact h.1
theorem Item.grown {W W' : World} {b : Nat} {x v v' : Value} (h : Item W b x v) (hg : W.grownBy W' v.ownBlock) (hat : v'.ownBlock = v.ownBlock ∨ v'.ownBlock = some W.heap.size) : Item W' b x v' := by
  obtain ⟨h1, h2, h3⟩ := h
  refine ⟨(World.cell?_of_block (hg.block b h2 (fun e => h3 e.symm))).trans h1, Nat.lt_of_lt_of_le h2 hg.size, fun e => ?_⟩
  rcases hat with h4 | h4
  · exact h3 (h4 ▸ e)
  · rw [h4] at e
    injection e with e
    omega
theorem Item.new {W : World} {b base e size n : Nat} {x v : Value} {xs : List Value} (h : W.ownsRow base e size v n xs) (hb : W.heap.size = b) : Item (W.alloc (.cells #[x] e)) b x v := by
  subst hb
  refine ⟨by rw [World.cell?_alloc_at _ _ _ _ rfl]; rfl, by simp, fun he => ?_⟩
  have := (h.lt _ he).2
  omega
theorem below_app {B : Nat} {w W W' : World} {base e size n : Nat} {v : Value} {xs : List Value} (h : Below B w W) (hown : W.ownsRow base e size v n xs) (hg : W.grownBy W' v.ownBlock) (hB : B ≤ base) (hW : B ≤ W.heap.size) : Below B w W' :=
  h.grown hg hW fun k hk => Nat.le_trans hB (hown.lt k hk).1
theorem Item.first {W : World} {e e' b b' : Nat} {x : Value} (hb : W.heap.size = b) (hb' : b' = b + 1) : Item ((W.alloc (.cells #[x] e)).alloc (.cells #[] e')) b x (.slice (some ⟨b', 0, none⟩) 0 0) := by
  subst hb hb'
  refine ⟨?_, by simp; omega, by simp [Value.ownBlock]⟩
  rw [World.cell?_alloc_lt _ _ _ (by simp), World.cell?_alloc_at _ _ _ _ rfl]
  rfl
theorem Item.second {W : World} {e e' b b' : Nat} {x : Value} (hb : W.heap.size = b) (hb' : b' = b + 1) : Item ((W.alloc (.cells #[] e')).alloc (.cells #[x] e)) b' x (.slice (some ⟨b, 0, none⟩) 0 0) := by
  subst hb hb'
  refine ⟨?_, by simp, by simp [Value.ownBlock]⟩
  rw [World.cell?_alloc_at _ _ _ _ (by simp)]
  rfl
end Go.Proofs.YtacfeabdeaikhaaDoor
