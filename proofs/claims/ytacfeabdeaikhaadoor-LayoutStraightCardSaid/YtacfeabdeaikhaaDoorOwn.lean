/-
  ROWS THAT THE CALL OWNS: appended to one element at a time, several of them side by side.
-/
import Derived.Test.YtacfeabdeaikhaaDoorProg
import Derived.Test.YtacfeabdeaikhaaDoorWords
import Derived.Test.YtacfeabdeaikhaaDoorBase
namespace Go.Proofs.YtacfeabdeaikhaaDoor
open Go.RowKit
set_option linter.unusedVariables false
set_option linter.unusedSimpArgs false

theorem own_base {w : World} {base base' : Nat} {e : TypeId} {size : Nat} {v : Value} {n : Nat} {xs : List Value} (h : w.ownsRow base e size v n xs) (hb : base' ≤ base) : w.ownsRow base' e size v n xs := by
  refine ⟨h.1, ?_⟩
  rcases h.2 with h2 | ⟨g, cap, cur, hv, hg, r⟩
  · exact .inl h2
  · exact .inr ⟨g, cap, cur, hv, Nat.le_trans hb hg, r⟩

/-- Two rows lie in two blocks. -/
def Apart (u v : Value) : Prop := ∀ b, u.ownBlock = some b → v.ownBlock ≠ some b
theorem Apart.symm {u v : Value} (h : Apart u v) : Apart v u := fun b hb hu => h b hu hb
theorem Apart.nil_left (v : Value) : Apart (.slice none 0 0) v := fun b hb => by simp [Value.ownBlock] at hb
theorem Apart.nil_right (v : Value) : Apart v (.slice none 0 0) := fun b _ => by simp [Value.ownBlock]

/-- An append behind one new block: another row is still owned, and still apart. -/
theorem own_beside {w w' : World} {o : Obj} {base e size n : Nat} {u v v' : Value} {ys : List Value} (hu : w.ownsRow base e size u n ys) (hg : (w.alloc o).grownBy w' v.ownBlock) (hap : Apart u v)
    (hat : v'.ownBlock = v.ownBlock ∨ v'.ownBlock = some (w.alloc o).heap.size) : w'.ownsRow base e size u n ys ∧ Apart u v' := by
  constructor
  · refine (hu.alloc o).kept hg ?_
    cases hb : u.ownBlock with
    | none => exact .inl rfl
    | some b => exact .inr (fun he => hap b hb he.symm)
  · intro b hb he
    rcases hat with h | h
    · exact hap b hb (h ▸ he)
    · rw [h] at he
      have := (hu.lt b hb).2
      simp at he
      omega
theorem below_append {a w w' : World} {o : Obj} {B base e size n : Nat} {v : Value} {xs : List Value} (h : Below B a w) (hB : B ≤ w.heap.size) (hv : w.ownsRow base e size v n xs) (hbase : B ≤ base) (hg : (w.alloc o).grownBy w' v.ownBlock) : Below B a w' :=
  (h.alloc hB o).grown hg (by simp; omega) fun k hk => Nat.le_trans hbase (hv.lt k hk).1

theorem below_mono_left {B : Nat} {a b c : World} (h : Below B a b) (k : Below b.heap.size b c) (hB : B ≤ b.heap.size) : Below B a c := h.trans (k.mono hB)

/-- What an owned row reads as, to whoever it is handed. -/
theorem own_form {w : World} {base e n : Nat} {v : Value} {xs : List Value} (h : w.ownsRow base e 1 v n xs) :
    ∃ A c, v = .slice A n c ∧ n ≤ c ∧ c ≤ 9223372036854775807 ∧ Reads w w.heap.size 1 A n xs := by
  rcases h.2 with ⟨rfl, rfl⟩ | ⟨g, cap, cur, rfl, hg, hh, hn, hm, hs, ht⟩
  · have : xs = [] := List.eq_nil_of_length_eq_zero (by simpa using h.1)
    subst this
    exact ⟨none, 0, rfl, Nat.le_refl _, by omega, Reads.none_⟩
  · refine ⟨some ⟨g, 0, none⟩, cap, rfl, hn, by unfold maxLen at hm; exact hm, h.1, fun _ => ⟨_, rfl, (h.lt g rfl).2, h.cells (g := g) rfl⟩⟩

theorem own_below {w w' : World} {base e size n : Nat} {v : Value} {xs : List Value} (h : w.ownsRow base e size v n xs) (hb : Below w.heap.size w w') : w'.ownsRow base e size v n xs := by
  refine ⟨h.1, ?_⟩
  rcases h.2 with h2 | ⟨g, cap, cur, hv, hg, hh, r⟩
  · exact .inl h2
  · exact .inr ⟨g, cap, cur, hv, hg, (hb.block g (Array.getElem?_eq_some_iff.1 hh).1).trans hh, r⟩
theorem info_int : (Tryd.prog.info? 3).map (fun i => (i.zero, i.size, i.bytes)) = some (some (.int .i64 0), 1, 8) := by kernel_rfl
theorem info_string : (Tryd.prog.info? 9).map (fun i => (i.zero, i.size, i.bytes)) = some (some (.string .empty), 1, 16) := by kernel_rfl

/-- 'append(s, x)' onto a row of the call's own: x has just been laid in a block of its own. What lies elsewhere is kept. -/
theorem wpList_app1 {P : Program} {ops : Array Oper} {rest : List Oper} {o : Oper} {a : Act} {Q : Exit → Act → World → Prop} {w0 : World} {x : Value} (hgd : o.guard = none) (s y : Operand) (t : TypeId)
    (ho : o.op = .call { callee := .builtin .append, args := #[s, y], argTypes := #[t, t] })
    (base : Nat) (e : TypeId) (bytes : Nat) (z : Value) (hinfo : (P.info? e).map (fun i => (i.zero, i.size, i.bytes)) = some (some z, 1, bytes)) (hzc : z.cells.size = 1) (ht : P.underlying t = some (.slice e))
    {v : Value} {n : Nat} {xs : List Value} (hs : a.eval s = v) (hown : w0.ownsRow base e 1 v n xs) (hy : a.eval y = .slice (some ⟨w0.heap.size, 0, none⟩) 1 1) (h1 : x.oneCell' = true)
    (h63 : n + 1 ≤ 9223372036854775807) (hbytes : (n + 1) * bytes ≤ 140737488355328) (hbase : base ≤ w0.heap.size)
    (h : ∀ v' w', w'.ownsRow base e 1 v' (n + 1) (xs ++ [x]) → Below base w0 w' → w0.heap.size + 1 ≤ w'.heap.size →
      (∀ (base2 e2 size2 : Nat) (u : Value) (m : Nat) (ys : List Value), w0.ownsRow base2 e2 size2 u m ys → Apart u v → w'.ownsRow base2 e2 size2 u m ys ∧ Apart u v') → wpList P ops Q rest (a.put o.dst v') w') :
    wpList P ops Q (o :: rest) a (w0.alloc (.cells #[x] e)) := by
  obtain ⟨i0, hi, hz0, hz1, hz2⟩ := info_parts hinfo
  refine wpList_append_own_at _ hgd s y t ho base e i0 z 1 bytes ht hi hz0 hz1 hz2 hzc (by decide) v n xs hs (hown.alloc _) ⟨w0.heap.size, 0, none⟩ 1 1 [x] hy rfl (cell_one_new _ _ _) (by simpa using h1) (by unfold maxLen; omega) hbytes (by simp; omega) ?_
  intro v' w' hown' hgrow _ hat
  refine h v' w' hown' (below_append (Below.refl base w0) hbase hown (Nat.le_refl _) hgrow) (by have := hgrow.size; simpa using this) ?_
  intro base2 e2 size2 u m ys hu hap
  exact own_beside hu hgrow hap hat
end Go.Proofs.YtacfeabdeaikhaaDoor
