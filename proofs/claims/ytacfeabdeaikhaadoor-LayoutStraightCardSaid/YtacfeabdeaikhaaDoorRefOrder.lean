import Derived.Test.YtacfeabdeaikhaaDoorRefOrd
namespace Go.Proofs.YtacfeabdeaikhaaDoor
open Go.RowKit Ru
set_option linter.unusedVariables false
set_option linter.unusedSimpArgs false

theorem encS_le (l : List Nat) : (encS l).length ≤ 4 * l.length := by
  have := flat_le (l.map fun (p : Nat) => (p : Int))
  rw [List.flatMap_map, List.length_map] at this
  exact this
theorem sc_le {l : List Nat} (h : Sc l) : ∀ p ∈ l, p ≤ 1114111 := fun p hp => scalar_le (h p hp)
theorem ordR_len (l : List Nat) (m : Nat) : (ordR l m).length = l.length + 1 := by
  have := (ordR_perm l m).length_eq
  simpa using this
theorem sc_ordR {l : List Nat} {m : Nat} (h : Sc l) (hm : scalarB (m : Int) = true) : Sc (ordR l m) := fun p hp => by
  rcases List.mem_cons.1 ((ordR_perm l m).mem_iff.1 hp) with rfl | h2
  · exact hm
  · exact h p h2
theorem drop_at {α : Type} {l : List α} {k : Nat} {x : α} (h : l[k]? = some x) : l.drop k = x :: l.drop (k + 1) := by
  obtain ⟨hk, rfl⟩ := List.getElem?_eq_some_iff.1 h
  exact List.drop_eq_getElem_cons hk
/-- The cluster that is open, as it lies in memory. -/
def Open_ (wr : World) (v : Value) (cl : List Nat) : Prop := ∃ A c, v = .slice A cl.length c ∧ NR wr wr.heap.size A cl.length cl ∧ cl.length ≤ c ∧ c ≤ 9223372036854775807
theorem Open_.of_own {w : World} {b e n : Nat} {v : Value} {cl : List Nat} (h : w.ownsRow b e 1 v n (cl.map fun (p : Nat) => Value.int .i64 (p : Int))) (hn : cl.length = n) : Open_ w v cl := by
  obtain ⟨A, c, rfl, h1, h2, hr⟩ := own_form h
  subst hn
  exact ⟨A, c, rfl, hr, h1, h2⟩
theorem Open_.on {w w' : World} {v : Value} {cl : List Nat} (h : Open_ w v cl) (hb : Below w.heap.size w w') : Open_ w' v cl := by
  obtain ⟨A, c, e, hr, h1, h2⟩ := h
  exact ⟨A, c, e, hr.on hb, h1, h2⟩
def ordPost (s : ByteArray) : Value := .string (strL (order s.data.toList))
theorem order_none {s : List UInt8} (h : points s = none) : order s = s := by unfold order; rw [h]
theorem order_some {s : List UInt8} {d : List Nat} (h : points s = some d) : order s = encS (ords d) := by unfold order; rw [h]

end Go.Proofs.YtacfeabdeaikhaaDoor
