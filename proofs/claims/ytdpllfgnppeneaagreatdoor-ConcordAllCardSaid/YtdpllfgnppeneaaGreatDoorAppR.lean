/-
  Appends of records (any number of cells each) onto a row of the call's own; a part of a row of records.
-/
import Derived.Test.YtdpllfgnppeneaaGreatDoorG03
import Derived.Test.YtdpllfgnppeneaaGreatDoorG00
namespace Go.Proofs.YtdpllfgnppeneaaGreatDoor
open Go Go.RowKit
set_option linter.unusedVariables false
set_option linter.unusedSimpArgs false

section
variable {P : Program} {Q : Exit → Act → World → Prop}
/-- 'oper_app' of records. -/
theorem oper_appR {o : Oper} {a : Act} {w : World} {K : Act → World → Prop} (s x : Operand) (t : TypeId)
    (ho : o.op = .call { callee := .builtin .append, args := #[s, x], argTypes := #[t, t] })
    (base : Nat) (e : TypeId) (size bytes : Nat) (z : Value) (hinfo : (P.info? e).map (fun i => (i.zero, i.size, i.bytes)) = some (some z, size, bytes)) (hzc : z.cells.size = size) (hs0 : 0 < size) (ht : P.underlying t = some (.slice e))
    {v : Value} {n : Nat} {xs : List Value} (hs : a.eval s = v) (hown : w.ownsRow base e size v n xs)
    {B : Nat} {A : Option Addr} {m c : Nat} {news : List Value} (hx : a.eval x = .slice A m c) (hr : Reads w B size A m news) (h1 : ∀ u ∈ news, u.oneCell' = true)
    (h63 : n + m ≤ 9223372036854775807) (hbytes : (n + m) * bytes ≤ 140737488355328) (hbase : base ≤ w.heap.size)
    (h : ∀ v' w', w'.ownsRow base e size v' (n + m) (xs ++ news) → w.grownBy w' v.ownBlock → (v'.ownBlock = v.ownBlock ∨ v'.ownBlock = some w.heap.size) → K (a.put o.dst v') w') :
    o.wp P a w K Q := by
  obtain ⟨i0, hi, hz0, hz1, hz2⟩ := info_parts hinfo
  cases A with
  | none =>
    have hm : m = 0 := by
      rcases Nat.eq_zero_or_pos m with h | h
      · exact h
      · obtain ⟨_, hc, _⟩ := hr.2 h
        cases hc
    have hnw : news = [] := List.eq_nil_of_length_eq_zero (by rw [hr.1, hm, Nat.zero_mul])
    subst hm hnw
    have hrun := append_nil_run (P := P) w base t o.type e i0 size ht hi hown c
    unfold Oper.wp execOp
    simp only [ho, resolve, invoke, builtin, Sem.run_bind, Sem.run_pure, Result.andThen_ok, List.map_toArray, List.map_cons, List.map_nil, hs, hx, hrun]
    exact h v w (by simpa using hown) (World.grownBy.refl w _) (.inl rfl)
  | some ad =>
    have hc : ∀ j u, news[j]? = some u → w.cell? (ad.add j) = some u := by
      intro j u hu
      have hj := (List.getElem?_eq_some_iff.1 hu).1
      have hl := hr.1
      have hm : 0 < m := by
        rcases Nat.eq_zero_or_pos m with h0 | h0
        · rw [h0, Nat.zero_mul] at hl; omega
        · exact h0
      obtain ⟨ad', h2, _, h3⟩ := hr.2 hm
      cases h2
      exact h3 j u hu
    exact oper_append_own s x t ho base e i0 z size bytes ht hi hz0 hz1 hz2 hzc hs0 v n xs hs hown ad m c news hx hr.1 hc h1 (by unfold maxLen; omega) hbytes hbase fun v' w' h2 h3 _ h4 => h v' w' h2 h3 h4
theorem step_appR {ops : Array Oper} {o : Oper} {a : Act} {w : World} {K : Act → World → Prop} {E : Prop} (hgd : o.guard = none) (s x : Operand) (t : TypeId)
    (ho : o.op = .call { callee := .builtin .append, args := #[s, x], argTypes := #[t, t] })
    (base : Nat) (e : TypeId) (size bytes : Nat) (z : Value) (hinfo : (P.info? e).map (fun i => (i.zero, i.size, i.bytes)) = some (some z, size, bytes)) (hzc : z.cells.size = size) (hs0 : 0 < size) (ht : P.underlying t = some (.slice e))
    {v : Value} {n : Nat} {xs : List Value} (hs : a.eval s = v) (hown : w.ownsRow base e size v n xs)
    {B : Nat} (A : Option Addr) (m c : Nat) {news : List Value} (hx : a.eval x = .slice A m c) (hr : Reads w B size A m news) (h1 : ∀ u ∈ news, u.oneCell' = true)
    (h63 : n + m ≤ 9223372036854775807) (hbytes : (n + m) * bytes ≤ 140737488355328) (hbase : base ≤ w.heap.size)
    (h : ∀ v' w', w'.ownsRow base e size v' (n + m) (xs ++ news) → w.grownBy w' v.ownBlock → (v'.ownBlock = v.ownBlock ∨ v'.ownBlock = some w.heap.size) → K (a.put o.dst v') w') :
    if Region.wanted o (yielded ops a.tmps) = true then Oper.wp P o a w K Q else E := by
  have hw : Region.wanted o (yielded ops a.tmps) = true := by simp [Region.wanted, hgd]
  rw [if_pos hw]
  exact oper_appR s x t ho base e size bytes z hinfo hzc hs0 ht hs hown hx hr h1 h63 hbytes hbase h
theorem wpList_appR {ops : Array Oper} {rest : List Oper} {o : Oper} {a : Act} {w : World} (hgd : o.guard = none) (s x : Operand) (t : TypeId)
    (ho : o.op = .call { callee := .builtin .append, args := #[s, x], argTypes := #[t, t] })
    (base : Nat) (e : TypeId) (size bytes : Nat) (z : Value) (hinfo : (P.info? e).map (fun i => (i.zero, i.size, i.bytes)) = some (some z, size, bytes)) (hzc : z.cells.size = size) (hs0 : 0 < size) (ht : P.underlying t = some (.slice e))
    {v : Value} {n : Nat} {xs : List Value} (hs : a.eval s = v) (hown : w.ownsRow base e size v n xs)
    {B : Nat} {A : Option Addr} {m c : Nat} {news : List Value} (hx : a.eval x = .slice A m c) (hr : Reads w B size A m news) (h1 : ∀ u ∈ news, u.oneCell' = true)
    (h63 : n + m ≤ 9223372036854775807) (hbytes : (n + m) * bytes ≤ 140737488355328) (hbase : base ≤ w.heap.size)
    (h : ∀ v' w', w'.ownsRow base e size v' (n + m) (xs ++ news) → w.grownBy w' v.ownBlock → (v'.ownBlock = v.ownBlock ∨ v'.ownBlock = some w.heap.size) → wpList P ops Q rest (a.put o.dst v') w') :
    wpList P ops Q (o :: rest) a w :=
  wpList_plain hgd fun _ hK => oper_appR s x t ho base e size bytes z hinfo hzc hs0 ht hs hown hx hr h1 h63 hbytes hbase fun v' w' h2 h3 h4 => hK _ _ (h v' w' h2 h3 h4)
end
section
variable {α : Type} {f : α → List Value} {s : Nat}
theorem flat_take (hf : ∀ x, (f x).length = s) : ∀ (l : List α) (k : Nat), (l.take k).flatMap f = (l.flatMap f).take (k * s)
  | [], k => by simp
  | x :: l, 0 => by simp
  | x :: l, k + 1 => by
    rw [List.take_succ_cons, List.flatMap_cons, List.flatMap_cons, flat_take hf l k, List.take_append, hf, show (k + 1) * s - s = k * s by rw [Nat.add_mul]; omega, show (f x).take ((k + 1) * s) = f x from List.take_of_length_le (by rw [hf, Nat.add_mul]; omega)]
theorem flat_drop (hf : ∀ x, (f x).length = s) : ∀ (l : List α) (k : Nat), (l.drop k).flatMap f = (l.flatMap f).drop (k * s)
  | [], k => by simp
  | x :: l, 0 => by simp
  | x :: l, k + 1 => by
    rw [List.drop_succ_cons, List.flatMap_cons, flat_drop hf l k, List.drop_append, hf, show (k + 1) * s - s = k * s by rw [Nat.add_mul]; omega, show (f x).drop ((k + 1) * s) = [] from List.drop_of_length_le (by rw [hf, Nat.add_mul]; omega), List.nil_append]
/-- The first k of a row of records. -/
theorem Reads.takeR {w : World} {B n k : Nat} {A : Option Addr} {l : List α} (hf : ∀ x, (f x).length = s) (h : Reads w B s A n (l.flatMap f)) (hk : k ≤ n) : Reads w B s A k ((l.take k).flatMap f) := by
  rw [flat_take hf]
  have hks : k * s ≤ n * s := Nat.mul_le_mul_right s hk
  refine ⟨by rw [List.length_take, h.1]; omega, fun h0 => ?_⟩
  obtain ⟨ad, e, hb, hc⟩ := h.2 (by omega)
  refine ⟨ad, e, hb, fun j u hu => ?_⟩
  rw [List.getElem?_take] at hu
  split at hu
  · exact hc j u hu
  · cases hu
/-- The rest of a row of records, as slicing gives it. -/
theorem Reads.cutR {w : World} {B n k cap : Nat} {A : Option Addr} {l : List α} (hf : ∀ x, (f x).length = s) (h : Reads w B s A n (l.flatMap f)) (hk : k ≤ n) (hc : n ≤ cap) : Reads w B s (if cap = k then A else Option.map (fun x => x.add (k * s)) A) (n - k) ((l.drop k).flatMap f) := by
  rw [flat_drop hf]
  refine ⟨by rw [List.length_drop, h.1, Nat.sub_mul], fun h0 => ?_⟩
  obtain ⟨ad, e, hb, hcell⟩ := h.2 (by omega)
  subst e
  rw [if_neg (by omega)]
  refine ⟨ad.add (k * s), rfl, by rw [block_of_add]; exact hb, fun j u hu => ?_⟩
  rw [add_of_add]
  exact hcell _ u (by rw [← hu, List.getElem?_drop])
end
end Go.Proofs.YtdpllfgnppeneaaGreatDoor
