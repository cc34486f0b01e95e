/-
  SMALL WORDS that every chapter's walks use.
-/
import Derived.Test.YtacfeabdeaikhaaDoorProg
import Derived.Test.YtacfeabdeaikhaaDoorWords
import Derived.Test.YtacfeabdeaikhaaDoorQuietB
import Derived.Deep.QuietTactic
import Derived.BigQuiet
import Derived.Lib.Strings
import Derived.WalkLawsBesides
import Derived.Outline
namespace Go.Proofs.YtacfeabdeaikhaaDoor
open Go.RowKit
set_option linter.unusedVariables false
set_option linter.unusedSimpArgs false

theorem ret_bool {a b : Bool} (h : a = b) : Ending.returned (.bool a) = .returned (.bool b) := by rw [h]
theorem ret_int {k : IntKind} {a b : Int} (h : a = b) : Ending.returned (.int k a) = .returned (.int k b) := by rw [h]
theorem ret_i64 {a b : Int} (h : a = b) : Ending.returned (.int .i64 a) = .returned (.int .i64 b) := by rw [h]
theorem ret_str {a b : ByteArray} (h : a = b) : Ending.returned (.string a) = .returned (.string b) := by rw [h]
theorem mono_eq {P : Program} {f : FuncId} {args : Array Value} {w : World} {v v' : Value} {R : World → Prop} (h : Calls P f args w fun e w' => e = .returned v ∧ R w') (hv : v = v') : Calls P f args w fun e w' => e = .returned v' ∧ R w' := by
  subst hv
  exact h
theorem cell_z {w wr : World} {a : Addr} {v : Value} (hz : Hid (∃ z, wr = w.drewN z)) (h : w.cell? a = some v) : wr.cell? a = some v := by
  obtain ⟨z, rfl⟩ := hz.out
  exact h
theorem drew_z {w wr : World} (hz : Hid (∃ z, wr = w.drewN z)) (k : Nat) : ∃ z, wr.drewN k = w.drewN z := by
  obtain ⟨z, rfl⟩ := hz.out
  exact ⟨_, World.drewN_drewN _ _ _⟩
theorem ba_ext {a b : ByteArray} (h : a.data.toList = b.data.toList) : a = b := by
  cases a with | mk d => cases b with | mk e => cases d with | mk p => cases e with | mk q => simp at h; rw [h]

theorem beq_bytes (y x : ByteArray) : (y.toList == x.toList) = decide (y = x) := by
  rw [Lib.toList_data, Lib.toList_data, Bool.eq_iff_iff, beq_iff_eq, decide_eq_true_iff]
  exact ⟨fun h => ba_ext h, fun h => by rw [h]⟩

/-- A slice of strings reads as l. -/
def SR (w : World) (B : Nat) (A : Option Addr) (n : Nat) (l : List ByteArray) : Prop := Reads w B 1 A n (l.map .string)
/-- A slice of integers reads as l. -/
def IR (w : World) (B : Nat) (A : Option Addr) (n : Nat) (l : List Int) : Prop := Reads w B 1 A n (l.map (.int .i64))
section
variable {w w' : World} {B B' n k : Nat} {A : Option Addr}
theorem SR.at_ {l : List ByteArray} (h : SR w B A n l) (hk : k < n) :
    ∃ ad x, A = some ad ∧ ad.block < B ∧ l[k]? = some x ∧ w.cell? (ad.add k) = some (.string x) := by
  obtain ⟨ad, u, e, hb, hx, hc⟩ := Reads.at_ h hk
  rw [List.getElem?_map] at hx
  cases hz : l[k]? with
  | none => rw [hz] at hx; cases hx
  | some x => rw [hz] at hx; cases hx; exact ⟨ad, x, e, hb, rfl, hc⟩
theorem IR.at_ {l : List Int} (h : IR w B A n l) (hk : k < n) :
    ∃ ad x, A = some ad ∧ ad.block < B ∧ l[k]? = some x ∧ w.cell? (ad.add k) = some (.int .i64 x) := by
  obtain ⟨ad, u, e, hb, hx, hc⟩ := Reads.at_ h hk
  rw [List.getElem?_map] at hx
  cases hz : l[k]? with
  | none => rw [hz] at hx; cases hx
  | some x => rw [hz] at hx; cases hx; exact ⟨ad, x, e, hb, rfl, hc⟩
theorem SR.len {l : List ByteArray} (h : SR w B A n l) : l.length = n := by simpa using h.1
theorem IR.len {l : List Int} (h : IR w B A n l) : l.length = n := by simpa using h.1
theorem Reads.on {size : Nat} {xs : List Value} (h : Reads w w.heap.size size A n xs) (hb : Below w.heap.size w w') : Reads w' w'.heap.size size A n xs := (h.below hb).more hb.size
theorem SR.on {l : List ByteArray} (h : SR w w.heap.size A n l) (hb : Below w.heap.size w w') : SR w' w'.heap.size A n l := Reads.on h hb
theorem IR.on {l : List Int} (h : IR w w.heap.size A n l) (hb : Below w.heap.size w w') : IR w' w'.heap.size A n l := Reads.on h hb
end
theorem take_snoc_eq {α : Type} {xs ys : List α} {k : Nat} {x y : α} (h : xs.take k = ys.take k) (hx : xs[k]? = some x) (hy : ys[k]? = some y) (he : x = y) : xs.take (k + 1) = ys.take (k + 1) := by
  rw [List.take_add_one, List.take_add_one, h, hx, hy, he]
/-- A new block reads as its cells. -/
theorem reads_new (w : World) (e : TypeId) (c : Array Value) : Reads (w.alloc (.cells c e)) (w.alloc (.cells c e)).heap.size 1 (some ⟨w.heap.size, 0, none⟩) c.size c.toList := by
  refine ⟨by simp, fun _ => ⟨_, rfl, by simp, fun j u hu => ?_⟩⟩
  have e1 : (⟨w.heap.size, 0, none⟩ : Addr).add j = ⟨w.heap.size, j, none⟩ := by
    unfold Addr.add
    split
    · rename_i h; simp [h]
    · simp
  rw [e1, World.cell?_alloc_at _ _ _ _ rfl]
  simpa using hu
end Go.Proofs.YtacfeabdeaikhaaDoor
