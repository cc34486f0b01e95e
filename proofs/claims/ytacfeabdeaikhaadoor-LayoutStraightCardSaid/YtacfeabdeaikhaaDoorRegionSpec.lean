/-
  A REGION THAT DRAWS ITS ORDER, OPERATION BY OPERATION: each operation has a predicate on its value and the world (kept by every later step); each is shown once, from the predicates of the operations that it waits for.
-/
import Derived.Test.YtacfeabdeaikhaaDoorRegionInv
namespace Go.Proofs.YtacfeabdeaikhaaDoor
open Go
set_option linter.unusedVariables false
variable {P : Program} {ops : Array Oper} {Q : Exit → Act → World → Prop}

/-- j waits for i, over some others. -/
def reachB (ops : Array Oper) : Nat → Nat → Nat → Bool
  | 0, _, _ => false
  | f + 1, j, i => match ops[j]? with
    | none => false
    | some o => o.after.any fun e => Region.binds .any e && (e.on == i || reachB ops f e.on i)
def Closed (ops : Array Oper) (l : Array Bool) : Prop := ∀ j o, ops[j]? = some o → l.getD j false = true → ∀ e ∈ o.after, Region.binds .any e = true → l.getD e.on false = true
theorem Closed.reach {l : Array Bool} (h : Closed ops l) : ∀ {f j i : Nat}, reachB ops f j i = true → l.getD j false = true → l.getD i false = true
  | 0, _, _, hr, _ => by cases hr
  | f + 1, j, i, hr, hl => by
    unfold reachB at hr
    split at hr
    · cases hr
    · rename_i o ho
      obtain ⟨e, he, hb⟩ := Array.any_eq_true'.1 hr
      rw [Bool.and_eq_true, Bool.or_eq_true, beq_iff_eq] at hb
      have h1 := h j o ho hl e he hb.1
      rcases hb.2 with h2 | h2
      · rw [← h2]; exact h1
      · exact h.reach h2 h1
structure RInv (ops : Array Oper) (a0 : Act) (C : World → Prop) (V : Array Bool → Nat → Value → World → Prop) (l : Array Bool) (a : Act) (w : World) : Prop where
  len : l.size = ops.size
  closed : Closed ops l
  cls : C w
  size : a.tmps.size = a0.tmps.size
  defers : a.defers = a0.defers
  old : ∀ t, (∀ i o, ops[i]? = some o → l.getD i false = true → o.dst ≠ some t) → a.tmps.getD t undef = a0.tmps.getD t undef
  new : ∀ i o t, ops[i]? = some o → l.getD i false = true → o.dst = some t → V l i (a.tmps.getD t undef) w
theorem getD_true_false {l : Array Bool} {i : Nat} (h : l.getD i true = false) : l.getD i false = false := by
  simp only [Array.getD] at *
  split <;> simp_all
theorem getD_set_self {l : Array Bool} {i : Nat} (h : i < l.size) : (l.setIfInBounds i true).getD i false = true := by
  simp [Array.getD, h]
theorem getD_set_ne {l : Array Bool} {i j : Nat} (h : i ≠ j) : (l.setIfInBounds i true).getD j false = l.getD j false := by
  rw [Array.getD_eq_getD_getElem?, Array.getD_eq_getD_getElem?, Array.getElem?_setIfInBounds_ne h]
theorem rinv_step {a0 a : Act} {C : World → Prop} {V : Array Bool → Nat → Value → World → Prop} {l : Array Bool} {w w' : World} {i : Nat} {o : Oper} {t : Nat} {v : Value}
    (hdist : ∀ (i j : Nat) (oi oj : Oper) (s : Tmp), ops[i]? = some oi → ops[j]? = some oj → oi.dst = some s → oj.dst = some s → i = j)
    (h : RInv ops a0 C V l a w) (ho : ops[i]? = some o) (hd : o.dst = some t) (ht : t < a0.tmps.size) (hun : l.getD i true = false) (hr : ∀ e ∈ o.after, Region.binds .any e = true → l.getD e.on false = true)
    (hC : C w') (hv : V (l.setIfInBounds i true) i v w') (hk : ∀ j u, j ≠ i → V l j u w → V (l.setIfInBounds i true) j u w') : RInv ops a0 C V (l.setIfInBounds i true) (a.put o.dst v) w' := by
  have hi : i < l.size := by rw [h.len]; exact (Array.getElem?_eq_some_iff.1 ho).1
  have hput : a.put o.dst v = { a with tmps := a.tmps.setIfInBounds t v } := by rw [hd]; rfl
  have hts : t < a.tmps.size := by rw [h.size]; exact ht
  have hself : (a.tmps.setIfInBounds t v).getD t undef = v := by simp [Array.getD, hts]
  have hne : ∀ s, s ≠ t → (a.tmps.setIfInBounds t v).getD s undef = a.tmps.getD s undef := fun s hs => by
    rw [Array.getD_eq_getD_getElem?, Array.getD_eq_getD_getElem?, Array.getElem?_setIfInBounds_ne (Ne.symm hs)]
  rw [hput]
  refine ⟨by simpa using h.len, ?_, hC, by simpa using h.size, h.defers, ?_, ?_⟩
  · intro j oj hj hl e he hb
    by_cases e1 : i = e.on
    · rw [← e1]; exact getD_set_self hi
    · rw [getD_set_ne e1]
      by_cases e2 : i = j
      · subst e2
        rw [ho] at hj
        cases hj
        exact hr e he hb
      · rw [getD_set_ne e2] at hl
        exact h.closed j oj hj hl e he hb
  · intro s hs
    have h1 : s ≠ t := fun e => hs i o ho (getD_set_self hi) (by rw [hd, e])
    show (a.tmps.setIfInBounds t v).getD s undef = _
    rw [hne s h1]
    refine h.old s fun j oj hj hl => ?_
    by_cases e2 : i = j
    · subst e2
      rw [ho] at hj
      cases hj
      rw [hd]
      exact fun e => h1 (Option.some.inj e).symm
    · exact hs j oj hj (by rw [getD_set_ne e2]; exact hl)
  · intro j oj s hj hl hs
    show V (l.setIfInBounds i true) j ((a.tmps.setIfInBounds t v).getD s undef) w'
    by_cases e2 : i = j
    · subst e2
      rw [ho] at hj
      cases hj
      have : t = s := Option.some.inj (hd.symm.trans hs)
      subst this
      rw [hself]
      exact hv
    · rw [getD_set_ne e2] at hl
      have h1 : s ≠ t := fun e => e2 (hdist i j o oj t ho hj hd (by rw [← e]; exact hs))
      rw [hne s h1]
      exact hk j _ (Ne.symm e2) (h.new j oj s hj hl hs)
theorem getD_false_true {l : Array Bool} {i : Nat} (h : l.getD i false = false) (hi : i < l.size) : l.getD i true = false := by
  simp only [Array.getD] at *
  split <;> simp_all
/-- Each operation waits for earlier ones alone. -/
def backB (ops : Array Oper) : Bool := (List.range ops.size).all fun i => match ops[i]? with
  | none => true
  | some o => o.after.all fun e => decide (e.on < i)
theorem all_listed {l : Array Bool} (hb : backB ops = true) (hl : l.size = ops.size) (h0 : Region.ready .any ops l = []) : ∀ i, i < ops.size → l.getD i false = true := by
  intro i
  induction i using Nat.strongRecOn with
  | _ i ih =>
    intro hi
    cases hh : l.getD i false with
    | true => rfl
    | false =>
      have hmem : i ∈ Region.ready .any ops l := by
        refine mem_ready.2 ⟨getD_false_true hh (by omega), ops[i], Array.getElem?_eq_getElem hi, fun e he _ => ?_⟩
        have h1 := List.all_eq_true.1 hb i (List.mem_range.2 hi)
        rw [Array.getElem?_eq_getElem hi] at h1
        have h2 := of_decide_eq_true (Array.all_eq_true'.1 h1 e he)
        exact ih e.on h2 (by omega)
      rw [h0] at hmem
      cases hmem
/-- **A region that draws its order: each operation once.** -/
theorem wp_region_spec {id : Nat} {a0 : Act} {w : World} (hm : P.follows .mixedOrders = true) (C : World → Prop) (V : Array Bool → Nat → Value → World → Prop) (hb : backB ops = true)
    (hdist : ∀ (i j : Nat) (oi oj : Oper) (s : Tmp), ops[i]? = some oi → ops[j]? = some oj → oi.dst = some s → oj.dst = some s → i = j)
    (hdst : ∀ (i : Nat) (o : Oper), ops[i]? = some o → ∃ t, o.dst = some t ∧ t < a0.tmps.size) (h0 : C w.drew)
    (hstep : ∀ (i : Nat) (o : Oper) (l : Array Bool) (a : Act) (w : World), ops[i]? = some o → RInv ops a0 C V l a w → l.getD i false = false → (∀ e ∈ o.after, Region.binds .any e = true → l.getD e.on false = true) →
      wpOp P ops Q i (fun a' w' => ∃ v, a' = a.put o.dst v ∧ V (l.setIfInBounds i true) i v w' ∧ C w' ∧ ∀ j u, j ≠ i → V l j u w → V (l.setIfInBounds i true) j u w') a w)
    (hQ : ∀ (l : Array Bool) (a : Act) (w : World), RInv ops a0 C V l a w → (∀ i, i < ops.size → l.getD i false = true) → Q .normal a w) : (Code.region id ops true).wp P Q a0 w := by
  have hrep : ∀ i, (Array.replicate ops.size false).getD i false = false := fun i => by
    simp only [Array.getD]
    split <;> simp
  refine wp_region_inv hm (RInv ops a0 C V) ⟨by simp, ?_, h0, rfl, rfl, fun _ _ => rfl, ?_⟩ (fun l a w h hr => hQ l a w h (all_listed hb h.len hr)) ?_
  · intro j o _ hl
    rw [hrep] at hl
    cases hl
  · intro j o t _ hl
    rw [hrep] at hl
    cases hl
  · intro l a w i h hi
    obtain ⟨hun, o, ho, hr⟩ := mem_ready.1 hi
    obtain ⟨t, hd, ht⟩ := hdst i o ho
    refine wpOp_mono ?_ (hstep i o l a w ho h (getD_true_false hun) hr)
    rintro a' w' ⟨v, rfl, hv, hC, hk⟩
    exact rinv_step hdist h ho hd ht hun hr hC hv hk
end Go.Proofs.YtacfeabdeaikhaaDoor
