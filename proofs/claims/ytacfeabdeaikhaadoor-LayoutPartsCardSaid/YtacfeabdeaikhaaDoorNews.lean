import Derived.Test.YtacfeabdeaikhaaDoorQClu
import Derived.Test.YtacfeabdeaikhaaDoorEqual
import Derived.Test.YtacfeabdeaikhaaDoorSame
namespace Go.Proofs.YtacfeabdeaikhaaDoor
open Go.RowKit Ru
set_option linter.unusedVariables false
set_option linter.unusedSimpArgs false

theorem ir_new (w : World) (e : TypeId) (l : List Int) (c : Array Value) (hc : c.toList = l.map (.int .i64)) (n : Nat) (hn : n = l.length) : IR (w.alloc (.cells c e)) (w.alloc (.cells c e)).heap.size (some ⟨w.heap.size, 0, none⟩) n l := by
  subst hn
  have h := reads_new w e c
  have e1 : c.size = l.length := by rw [← Array.length_toList, hc, List.length_map]
  rw [hc, e1] at h
  exact h
theorem sr_new (w : World) (e : TypeId) (l : List ByteArray) (c : Array Value) (hc : c.toList = l.map .string) (n : Nat) (hn : n = l.length) : SR (w.alloc (.cells c e)) (w.alloc (.cells c e)).heap.size (some ⟨w.heap.size, 0, none⟩) n l := by
  subst hn
  have h := reads_new w e c
  have e1 : c.size = l.length := by rw [← Array.length_toList, hc, List.length_map]
  rw [hc, e1] at h
  exact h
theorem points_some (s : ByteArray) (d : List Nat) (w : World) (hs : s.size ≤ 1099511627776) (hT : Tabs w) (hd : points s.data.toList = some d) :
    Calls Tryd.prog 31 #[.string s] w fun e w' => ∃ A c, e = .returned (.tuple #[.slice A d.length c, .bool true]) ∧ IR w' w'.heap.size A d.length (d.map fun (p : Nat) => (p : Int)) ∧ Below w.heap.size w w' := by
  refine (points_any s w hs hT).mono ?_
  rw [hd]
  rintro e w' ⟨_, h2, hb⟩
  obtain ⟨v, rfl, hown⟩ := h2 d rfl
  obtain ⟨A, c, rfl, _, _, hr⟩ := own_form hown
  exact ⟨A, c, rfl, NR.ints hr, hb⟩
theorem points_no (s : ByteArray) (w : World) (hs : s.size ≤ 1099511627776) (hT : Tabs w) (hd : points s.data.toList = none) :
    Calls Tryd.prog 31 #[.string s] w fun e w' => e = .returned (.tuple #[.slice none 0 0, .bool false]) ∧ Below w.heap.size w w' := by
  refine (points_any s w hs hT).mono ?_
  rw [hd]
  rintro e w' ⟨h1, _, hb⟩
  exact ⟨h1 rfl, hb⟩
theorem clusters_some (s : ByteArray) (l : List ByteArray) (w : World) (hs : s.size ≤ 1099511627) (hT : Tabs w) (hd : clusB s.data.toList = l) :
    Calls Tryd.prog 32 #[.string s] w fun e w' => ∃ A c, e = .returned (.slice A l.length c) ∧ SR w' w'.heap.size A l.length l ∧ Below w.heap.size w w' := by
  subst hd
  refine (clusters_any s w hs hT).mono ?_
  rintro e w' ⟨v, rfl, hown, hb⟩
  obtain ⟨A, c, rfl, _, _, hr⟩ := own_form hown
  exact ⟨A, c, rfl, hr, hb⟩
theorem drewN_below {w w' : World} (o : Obj) (h : ∃ k, w' = (w.alloc o).drewN k) : Below w.heap.size w w' := by
  obtain ⟨k, rfl⟩ := h
  exact below_drewN (below_new _ _) _
theorem same_new {A : Option Addr} {c m : Nat} (w : World) (cs : Array Value) (l : List Int) (t : TypeId) {n : Nat} (h : IR w w.heap.size A n l) (hc : cs.toList = l.map (.int .i64)) (hn : n = l.length ∧ n ≤ 1000) :
    Calls Tryd.prog 18 #[.slice A n c, .slice (some ⟨w.heap.size, 0, none⟩) n m] (w.alloc (.cells cs t)) fun e w' => e = .returned (.bool true) ∧ Below w.heap.size w w' := by
  refine (same_ints A _ n n c m l l _ (IR.on h (below_new _ _)) (ir_new w t l cs hc n hn.1) (by omega) (by omega)).mono ?_
  rintro e w' ⟨rfl, hk⟩
  exact ⟨by rw [beq_self_eq_true], drewN_below _ hk⟩
theorem equal_new {A : Option Addr} {c m : Nat} (w : World) (cs : Array Value) (l : List ByteArray) (t : TypeId) {n : Nat} (h : SR w w.heap.size A n l) (hc : cs.toList = l.map .string) (hn : n = l.length ∧ n ≤ 1000) :
    Calls Tryd.prog 24 #[.slice A n c, .slice (some ⟨w.heap.size, 0, none⟩) n m] (w.alloc (.cells cs t)) fun e w' => e = .returned (.bool true) ∧ Below w.heap.size w w' := by
  refine (equal_strs A _ n n c m l l _ (SR.on h (below_new _ _)) (sr_new w t l cs hc n hn.1) (by omega) (by omega)).mono ?_
  rintro e w' ⟨rfl, hk⟩
  exact ⟨by rw [decide_eq_true rfl], drewN_below _ hk⟩

end Go.Proofs.YtacfeabdeaikhaaDoor
