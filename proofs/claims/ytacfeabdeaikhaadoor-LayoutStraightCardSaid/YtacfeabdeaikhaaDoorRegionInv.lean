/-
  A REGION THAT DRAWS ITS ORDER, BY AN INVARIANT OVER WHAT HAS BEEN CARRIED OUT: whatever operation is ready, one step keeps the invariant. No order is counted: one goal for each operation.
-/
import Derived.Test.YtacfeabdeaikhaaDoorQuietB
import Derived.Orders
namespace Go.Proofs.YtacfeabdeaikhaaDoor
open Go
variable {P : Program} {md : Region.Mode} {ops : Array Oper} {Q : Exit → Act → World → Prop}

/-- How many operations are left. -/
def left_ (l : Array Bool) : Nat := l.toList.countP fun b => !b
theorem left_set {l : Array Bool} {i : Nat} (h : l.getD i true = false) : left_ (l.setIfInBounds i true) + 1 = left_ l := by
  unfold left_
  have hi : i < l.size := by
    rcases Nat.lt_or_ge i l.size with hlt | hge
    · exact hlt
    · simp [Array.getD, Nat.not_lt.2 hge] at h
  have hv : l.toList[i]'(by simpa using hi) = false := by simpa [Array.getD, hi] using h
  have e : l.toList = l.toList.take i ++ false :: l.toList.drop (i + 1) := by
    rw [← hv, ← List.drop_eq_getElem_cons, List.take_append_drop]
  have e2 : (l.setIfInBounds i true).toList = l.toList.take i ++ true :: l.toList.drop (i + 1) := by
    rw [Array.toList_setIfInBounds, List.set_eq_take_append_cons_drop, if_pos (by simpa using hi)]
  rw [e2]
  conv => rhs; rw [e]
  rw [List.countP_append, List.countP_append, List.countP_cons, List.countP_cons]
  simp
  omega
theorem wpAny_inv (I : Array Bool → Act → World → Prop)
    (hQ : ∀ l a w, I l a w → Region.ready md ops l = [] → Q .normal a w)
    (hs : ∀ l a w i, I l a w → i ∈ Region.ready md ops l → wpOp P ops Q i (fun a' w' => I (l.setIfInBounds i true) a' w') a w) :
    ∀ (fuel : Nat) (l : Array Bool) (a : Act) (w : World), left_ l ≤ fuel → I l a w → wpAny P md ops Q fuel l a w
  | 0, l, a, w, hf, hI => by
    have h0 : Region.ready md ops l = [] := by
      rw [List.eq_nil_iff_forall_not_mem]
      intro j hj
      have h1 := (mem_ready.1 hj).1
      have := left_set h1
      omega
    exact ⟨h0, hQ l a w hI h0⟩
  | fuel + 1, l, a, w, hf, hI => by
    refine ⟨hQ l a w hI, fun i hi => wpOp_mono (fun a' w' h' => ?_) (hs l a w i hI hi)⟩
    have h1 := (mem_ready.1 hi).1
    have := left_set h1
    exact wpAny_inv I hQ hs fuel _ a' w' (by omega) h'
theorem wp_region_inv {id : Nat} {a : Act} {w : World} (hm : P.follows .mixedOrders = true) (I : Array Bool → Act → World → Prop) (h0 : I (Array.replicate ops.size false) a w.drew)
    (hQ : ∀ l a w, I l a w → Region.ready .any ops l = [] → Q .normal a w)
    (hs : ∀ l a w i, I l a w → i ∈ Region.ready .any ops l → wpOp P ops Q i (fun a' w' => I (l.setIfInBounds i true) a' w') a w) : (Code.region id ops true).wp P Q a w :=
  wp_region_any hm (wpAny_inv I hQ hs _ _ _ _ (by unfold left_; exact Nat.le_trans List.countP_le_length (by simp)) h0)
end Go.Proofs.YtacfeabdeaikhaaDoor
