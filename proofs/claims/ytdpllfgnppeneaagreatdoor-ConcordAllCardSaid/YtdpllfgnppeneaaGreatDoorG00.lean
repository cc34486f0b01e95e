import Derived.Below
import Derived.WalkKit
import Derived.WalkSpells
import Derived.WalkLawsBesides
import Derived.Laws.OwnMore
import Derived.Deep.AppendLies
import Derived.Deep.Draws
import Derived.Maps.AppendAt
import Derived.Lib.Hide
import Derived.Deep.QuietTactic
import Derived.BigQuiet
import Derived.Orders
import Derived.Test.YtdpllfgnppeneaaGreatDoorProg
import Derived.Lib.Strings
import Derived.Outline
/-
  WORDS FOR MEMORY of the claims of this seat: a slice that reads as a list of cells, and how such a reading is kept.
-/
set_option linter.unusedVariables false
set_option linter.unusedSimpArgs false
namespace Go.Proofs.YtdpllfgnppeneaaGreatDoor
open Go.RowKit

theorem block_of_add (a : Addr) (n : Nat) : (a.add n).block = a.block := by unfold Addr.add; split <;> rfl
theorem add_of_add (a : Addr) (i j : Nat) : (a.add i).add j = a.add (i + j) := by
  unfold Addr.add
  by_cases hi : i = 0 <;> by_cases hj : j = 0 <;> simp [hi, hj, Nat.add_assoc]

/-- The slice value '.slice A n c' has n elements of 'size' cells, the cells are xs, and it lies below block B. -/
def Reads (w : World) (B size : Nat) (A : Option Addr) (n : Nat) (xs : List Value) : Prop :=
  xs.length = n * size ∧ (0 < n → ∃ ad, A = some ad ∧ ad.block < B ∧ ∀ j u, xs[j]? = some u → w.cell? (ad.add j) = some u)

section
variable {w w' : World} {B B' size n : Nat} {A : Option Addr} {xs : List Value}
theorem Reads.none_ : Reads w B size A 0 [] := ⟨by simp, fun h => absurd h (by omega)⟩
theorem Reads.at_ {k : Nat} (h : Reads w B 1 A n xs) (hk : k < n) : ∃ ad u, A = some ad ∧ ad.block < B ∧ xs[k]? = some u ∧ w.cell? (ad.add k) = some u := by
  obtain ⟨ad, e, hb, hc⟩ := h.2 (by omega)
  have hl : k < xs.length := by have := h.1; omega
  exact ⟨ad, xs[k], e, hb, List.getElem?_eq_getElem hl, hc k _ (List.getElem?_eq_getElem hl)⟩
theorem Reads.keep (h : Reads w B size A n xs) (hk : ∀ p : Addr, p.block < B → w'.cell? p = w.cell? p) : Reads w' B size A n xs :=
  ⟨h.1, fun hn => by
    obtain ⟨ad, e, hb, hc⟩ := h.2 hn
    exact ⟨ad, e, hb, fun j u hu => (hk _ (by rw [block_of_add]; exact hb)).trans (hc j u hu)⟩⟩
theorem Reads.more (h : Reads w B size A n xs) (hB : B ≤ B') : Reads w B' size A n xs :=
  ⟨h.1, fun hn => by
    obtain ⟨ad, e, hb, hc⟩ := h.2 hn
    exact ⟨ad, e, by omega, hc⟩⟩
theorem Reads.below (h : Reads w B size A n xs) (hb : Below B w w') : Reads w' B size A n xs := h.keep fun _ hp => hb.cell hp
theorem Reads.drew (h : Reads w B size A n xs) : Reads w.drew B size A n xs := h
theorem Reads.drewN (h : Reads w B size A n xs) (k : Nat) : Reads (w.drewN k) B size A n xs := h
theorem Reads.alloc (h : Reads w B size A n xs) (hB : B ≤ w.heap.size) (o : Obj) : Reads (w.alloc o) B size A n xs := h.keep fun p hp => World.cell?_alloc_lt w o p (by omega)
theorem Reads.setCell (h : Reads w B size A n xs) {p : Addr} (hB : B ≤ p.block) (u : Value) : Reads (w.setCell p u) B size A n xs :=
  h.keep fun q hq => World.cell?_setCell_other w p q u (fun e => by subst e; omega)
end
theorem below_drewN {B : Nat} {a w : World} (h : Below B a w) (n : Nat) : Below B a (w.drewN n) := ⟨h.os, h.tape, h.output, h.size, h.block⟩
theorem below_new (w : World) (o : Obj) : Below w.heap.size w (w.alloc o) := (Below.refl _ _).alloc (Nat.le_refl _) _
end Go.Proofs.YtdpllfgnppeneaaGreatDoor

/-
  A REGION THAT DRAWS ITS ORDER, whose operations only read, and whose callees read and may lay new blocks: walked once, in the order of the text. (Derived/Deep/Quiet.lean's theorem at the class 'all that was there is as it was'.)
-/
namespace Go.Proofs.YtdpllfgnppeneaaGreatDoor
open Go.RowKit

/-- The worlds in which all that lies in w is as it was. -/
structure BW (w : World) where
  at_ : World
  bel : Below w.heap.size w at_
instance (w : World) : Inhabited (BW w) := ⟨⟨w, Below.refl _ _⟩⟩
theorem wp_region_quiet_below {P : Program} {id : Nat} {Q : Exit → Act → World → Prop} {a : Act} {w : World} {l : List Oper} (hm : P.follows .mixedOrders = true) (hB : Region.lexB .any l.toArray = true)
    (h : wpQuiet P l.toArray (fun w' => ∃ p : BW w, w' = p.at_) (fun a' => ∀ w', (∃ p : BW w, w' = p.at_) → Q .normal a' w') l a) : (Code.region id l.toArray true).wp P Q a w :=
  wp_region_quiet (C := fun w' => ∃ p : BW w, w' = p.at_) hm hB ⟨⟨w.drew, (Below.refl _ _).drew⟩, rfl⟩ (by simpa using h)
theorem below_quiet {P : Program} {f : FuncId} {args : Array Value} {w : World} {p : BW w} {v : Value}
    (h : Calls P f args p.at_ fun e w' => e = .returned v ∧ Below p.at_.heap.size p.at_ w') : Calls P f args p.at_ fun e w'' => e = .returned v ∧ ∃ q : BW w, w'' = q.at_ :=
  h.mono fun _ _ ⟨he, hb⟩ => ⟨he, ⟨_, p.bel.trans (hb.mono p.bel.size)⟩, rfl⟩
theorem below_quiet' {P : Program} {f : FuncId} {args : Array Value} {w : World} {p : BW w} {v : Value}
    (h : Calls P f args p.at_ fun e w' => e = .returned v ∧ Below w.heap.size p.at_ w') : Calls P f args p.at_ fun e w'' => e = .returned v ∧ ∃ q : BW w, w'' = q.at_ :=
  h.mono fun _ _ ⟨he, hb⟩ => ⟨he, ⟨_, p.bel.trans hb⟩, rfl⟩
theorem same_quiet {P : Program} {f : FuncId} {args : Array Value} {w : World} {p : BW w} {v : Value}
    (h : Calls P f args p.at_ fun e w' => e = .returned v ∧ p.at_ = w') : Calls P f args p.at_ fun e w'' => e = .returned v ∧ ∃ q : BW w, w'' = q.at_ :=
  h.mono fun _ _ ⟨he, hb⟩ => ⟨he, p, hb.symm⟩
theorem drew_quiet {P : Program} {f : FuncId} {args : Array Value} {w : World} {p : BW w} {v : Value}
    (h : Calls P f args p.at_ fun e w' => e = .returned v ∧ ∃ k, w' = p.at_.drewN k) : Calls P f args p.at_ fun e w'' => e = .returned v ∧ ∃ q : BW w, w'' = q.at_ :=
  h.mono fun _ _ ⟨he, k, hb⟩ => ⟨he, ⟨_, below_drewN p.bel k⟩, hb⟩
theorem bw_below {w w' : World} (h : ∃ p : BW w, w' = p.at_) : Below w.heap.size w w' := by
  obtain ⟨p, rfl⟩ := h
  exact p.bel
theorem cell_bw {w : World} {a : Addr} {v : Value} (h : w.cell? a = some v) (hl : a.block < w.heap.size) (p : BW w) : p.at_.cell? a = some v := (p.bel.cell hl).trans h
end Go.Proofs.YtdpllfgnppeneaaGreatDoor

/-
  A REGION THAT DRAWS ITS ORDER, BY AN INVARIANT OVER WHAT HAS BEEN CARRIED OUT: whatever operation is ready, one step keeps the invariant. No order is counted: one goal for each operation.
-/
namespace Go.Proofs.YtdpllfgnppeneaaGreatDoor
open Go
variable {P : Program} {md : Region.Mode} {ops : Array Oper} {Q : Exit → Act → World → Prop}

/-- How many operations are left. -/
def left_ (l : Array Bool) : Nat := l.toList.countP fun b => !b
theorem left_set {l : Array Bool} {i : Nat} (h : l.getD i true = false) : left_ (l.setIfInBounds i true) + 1 = left_ l := by
  unfold left_
  have hi : i < l.size := by
    rcases Nat.lt_or_ge i l.size with hlt | hge
    · exact hlt
    · simp [Array.getD, Nat.not_lt.2 hge] at h
  have hv : l.toList[i]'(by simpa using hi) = false := by simpa [Array.getD, hi] using h
  have e : l.toList = l.toList.take i ++ false :: l.toList.drop (i + 1) := by
    rw [← hv, ← List.drop_eq_getElem_cons, List.take_append_drop]
  have e2 : (l.setIfInBounds i true).toList = l.toList.take i ++ true :: l.toList.drop (i + 1) := by
    rw [Array.toList_setIfInBounds, List.set_eq_take_append_cons_drop, if_pos (by simpa using hi)]
  rw [e2]
  conv => rhs; rw [e]
  rw [List.countP_append, List.countP_append, List.countP_cons, List.countP_cons]
  simp
  omega
theorem wpAny_inv (I : Array Bool → Act → World → Prop)
    (hQ : ∀ l a w, I l a w → Region.ready md ops l = [] → Q .normal a w)
    (hs : ∀ l a w i, I l a w → i ∈ Region.ready md ops l → wpOp P ops Q i (fun a' w' => I (l.setIfInBounds i true) a' w') a w) :
    ∀ (fuel : Nat) (l : Array Bool) (a : Act) (w : World), left_ l ≤ fuel → I l a w → wpAny P md ops Q fuel l a w
  | 0, l, a, w, hf, hI => by
    have h0 : Region.ready md ops l = [] := by
      rw [List.eq_nil_iff_forall_not_mem]
      intro j hj
      have h1 := (mem_ready.1 hj).1
      have := left_set h1
      omega
    exact ⟨h0, hQ l a w hI h0⟩
  | fuel + 1, l, a, w, hf, hI => by
    refine ⟨hQ l a w hI, fun i hi => wpOp_mono (fun a' w' h' => ?_) (hs l a w i hI hi)⟩
    have h1 := (mem_ready.1 hi).1
    have := left_set h1
    exact wpAny_inv I hQ hs fuel _ a' w' (by omega) h'
theorem wp_region_inv {id : Nat} {a : Act} {w : World} (hm : P.follows .mixedOrders = true) (I : Array Bool → Act → World → Prop) (h0 : I (Array.replicate ops.size false) a w.drew)
    (hQ : ∀ l a w, I l a w → Region.ready .any ops l = [] → Q .normal a w)
    (hs : ∀ l a w i, I l a w → i ∈ Region.ready .any ops l → wpOp P ops Q i (fun a' w' => I (l.setIfInBounds i true) a' w') a w) : (Code.region id ops true).wp P Q a w :=
  wp_region_any hm (wpAny_inv I hQ hs _ _ _ _ (by unfold left_; exact Nat.le_trans List.countP_le_length (by simp)) h0)
end Go.Proofs.YtdpllfgnppeneaaGreatDoor

/-
  A REGION THAT DRAWS ITS ORDER, OPERATION BY OPERATION: each operation has a predicate on its value and the world (kept by every later step); each is shown once, from the predicates of the operations that it waits for.
-/
namespace Go.Proofs.YtdpllfgnppeneaaGreatDoor
open Go
set_option linter.unusedVariables false
variable {P : Program} {ops : Array Oper} {Q : Exit → Act → World → Prop}

/-- j waits for i, over some others. -/
def reachB (ops : Array Oper) : Nat → Nat → Nat → Bool
  | 0, _, _ => false
  | f + 1, j, i => match ops[j]? with
    | none => false
    | some o => o.after.any fun e => Region.binds .any e && (e.on == i || reachB ops f e.on i)
def Closed (ops : Array Oper) (l : Array Bool) : Prop := ∀ j o, ops[j]? = some o → l.getD j false = true → ∀ e ∈ o.after, Region.binds .any e = true → l.getD e.on false = true
theorem Closed.reach {l : Array Bool} (h : Closed ops l) : ∀ {f j i : Nat}, reachB ops f j i = true → l.getD j false = true → l.getD i false = true
  | 0, _, _, hr, _ => by cases hr
  | f + 1, j, i, hr, hl => by
    unfold reachB at hr
    split at hr
    · cases hr
    · rename_i o ho
      obtain ⟨e, he, hb⟩ := Array.any_eq_true'.1 hr
      rw [Bool.and_eq_true, Bool.or_eq_true, beq_iff_eq] at hb
      have h1 := h j o ho hl e he hb.1
      rcases hb.2 with h2 | h2
      · rw [← h2]; exact h1
      · exact h.reach h2 h1
structure RInv (ops : Array Oper) (a0 : Act) (C : World → Prop) (V : Array Bool → Nat → Value → World → Prop) (l : Array Bool) (a : Act) (w : World) : Prop where
  len : l.size = ops.size
  closed : Closed ops l
  cls : C w
  size : a.tmps.size = a0.tmps.size
  defers : a.defers = a0.defers
  old : ∀ t, (∀ i o, ops[i]? = some o → l.getD i false = true → o.dst ≠ some t) → a.tmps.getD t undef = a0.tmps.getD t undef
  new : ∀ i o t, ops[i]? = some o → l.getD i false = true → o.dst = some t → V l i (a.tmps.getD t undef) w
theorem getD_true_false {l : Array Bool} {i : Nat} (h : l.getD i true = false) : l.getD i false = false := by
  simp only [Array.getD] at *
  split <;> simp_all
theorem getD_set_self {l : Array Bool} {i : Nat} (h : i < l.size) : (l.setIfInBounds i true).getD i false = true := by
  simp [Array.getD, h]
theorem getD_set_ne {l : Array Bool} {i j : Nat} (h : i ≠ j) : (l.setIfInBounds i true).getD j false = l.getD j false := by
  rw [Array.getD_eq_getD_getElem?, Array.getD_eq_getD_getElem?, Array.getElem?_setIfInBounds_ne h]
theorem rinv_step {a0 a : Act} {C : World → Prop} {V : Array Bool → Nat → Value → World → Prop} {l : Array Bool} {w w' : World} {i : Nat} {o : Oper} {t : Nat} {v : Value}
    (hdist : ∀ (i j : Nat) (oi oj : Oper) (s : Tmp), ops[i]? = some oi → ops[j]? = some oj → oi.dst = some s → oj.dst = some s → i = j)
    (h : RInv ops a0 C V l a w) (ho : ops[i]? = some o) (hd : o.dst = some t) (ht : t < a0.tmps.size) (hun : l.getD i true = false) (hr : ∀ e ∈ o.after, Region.binds .any e = true → l.getD e.on false = true)
    (hC : C w') (hv : V (l.setIfInBounds i true) i v w') (hk : ∀ j u, j ≠ i → V l j u w → V (l.setIfInBounds i true) j u w') : RInv ops a0 C V (l.setIfInBounds i true) (a.put o.dst v) w' := by
  have hi : i < l.size := by rw [h.len]; exact (Array.getElem?_eq_some_iff.1 ho).1
  have hput : a.put o.dst v = { a with tmps := a.tmps.setIfInBounds t v } := by rw [hd]; rfl
  have hts : t < a.tmps.size := by rw [h.size]; exact ht
  have hself : (a.tmps.setIfInBounds t v).getD t undef = v := by simp [Array.getD, hts]
  have hne : ∀ s, s ≠ t → (a.tmps.setIfInBounds t v).getD s undef = a.tmps.getD s undef := fun s hs => by
    rw [Array.getD_eq_getD_getElem?, Array.getD_eq_getD_getElem?, Array.getElem?_setIfInBounds_ne (Ne.symm hs)]
  rw [hput]
  refine ⟨by simpa using h.len, ?_, hC, by simpa using h.size, h.defers, ?_, ?_⟩
  · intro j oj hj hl e he hb
    by_cases e1 : i = e.on
    · rw [← e1]; exact getD_set_self hi
    · rw [getD_set_ne e1]
      by_cases e2 : i = j
      · subst e2
        rw [ho] at hj
        cases hj
        exact hr e he hb
      · rw [getD_set_ne e2] at hl
        exact h.closed j oj hj hl e he hb
  · intro s hs
    have h1 : s ≠ t := fun e => hs i o ho (getD_set_self hi) (by rw [hd, e])
    show (a.tmps.setIfInBounds t v).getD s undef = _
    rw [hne s h1]
    refine h.old s fun j oj hj hl => ?_
    by_cases e2 : i = j
    · subst e2
      rw [ho] at hj
      cases hj
      rw [hd]
      exact fun e => h1 (Option.some.inj e).symm
    · exact hs j oj hj (by rw [getD_set_ne e2]; exact hl)
  · intro j oj s hj hl hs
    show V (l.setIfInBounds i true) j ((a.tmps.setIfInBounds t v).getD s undef) w'
    by_cases e2 : i = j
    · subst e2
      rw [ho] at hj
      cases hj
      have : t = s := Option.some.inj (hd.symm.trans hs)
      subst this
      rw [hself]
      exact hv
    · rw [getD_set_ne e2] at hl
      have h1 : s ≠ t := fun e => e2 (hdist i j o oj t ho hj hd (by rw [← e]; exact hs))
      rw [hne s h1]
      exact hk j _ (Ne.symm e2) (h.new j oj s hj hl hs)
theorem getD_false_true {l : Array Bool} {i : Nat} (h : l.getD i false = false) (hi : i < l.size) : l.getD i true = false := by
  simp only [Array.getD] at *
  split <;> simp_all
/-- Each operation waits for earlier ones alone. -/
def backB (ops : Array Oper) : Bool := (List.range ops.size).all fun i => match ops[i]? with
  | none => true
  | some o => o.after.all fun e => decide (e.on < i)
theorem all_listed {l : Array Bool} (hb : backB ops = true) (hl : l.size = ops.size) (h0 : Region.ready .any ops l = []) : ∀ i, i < ops.size → l.getD i false = true := by
  intro i
  induction i using Nat.strongRecOn with
  | _ i ih =>
    intro hi
    cases hh : l.getD i false with
    | true => rfl
    | false =>
      have hmem : i ∈ Region.ready .any ops l := by
        refine mem_ready.2 ⟨getD_false_true hh (by omega), ops[i], Array.getElem?_eq_getElem hi, fun e he _ => ?_⟩
        have h1 := List.all_eq_true.1 hb i (List.mem_range.2 hi)
        rw [Array.getElem?_eq_getElem hi] at h1
        have h2 := of_decide_eq_true (Array.all_eq_true'.1 h1 e he)
        exact ih e.on h2 (by omega)
      rw [h0] at hmem
      cases hmem
/-- **A region that draws its order: each operation once.** -/
theorem wp_region_spec {id : Nat} {a0 : Act} {w : World} (hm : P.follows .mixedOrders = true) (C : World → Prop) (V : Array Bool → Nat → Value → World → Prop) (hb : backB ops = true)
    (hdist : ∀ (i j : Nat) (oi oj : Oper) (s : Tmp), ops[i]? = some oi → ops[j]? = some oj → oi.dst = some s → oj.dst = some s → i = j)
    (hdst : ∀ (i : Nat) (o : Oper), ops[i]? = some o → ∃ t, o.dst = some t ∧ t < a0.tmps.size) (h0 : C w.drew)
    (hstep : ∀ (i : Nat) (o : Oper) (l : Array Bool) (a : Act) (w : World), ops[i]? = some o → RInv ops a0 C V l a w → l.getD i false = false → (∀ e ∈ o.after, Region.binds .any e = true → l.getD e.on false = true) →
      wpOp P ops Q i (fun a' w' => ∃ v, a' = a.put o.dst v ∧ V (l.setIfInBounds i true) i v w' ∧ C w' ∧ ∀ j u, j ≠ i → V l j u w → V (l.setIfInBounds i true) j u w') a w)
    (hQ : ∀ (l : Array Bool) (a : Act) (w : World), RInv ops a0 C V l a w → (∀ i, i < ops.size → l.getD i false = true) → Q .normal a w) : (Code.region id ops true).wp P Q a0 w := by
  have hrep : ∀ i, (Array.replicate ops.size false).getD i false = false := fun i => by
    simp only [Array.getD]
    split <;> simp
  refine wp_region_inv hm (RInv ops a0 C V) ⟨by simp, ?_, h0, rfl, rfl, fun _ _ => rfl, ?_⟩ (fun l a w h hr => hQ l a w h (all_listed hb h.len hr)) ?_
  · intro j o _ hl
    rw [hrep] at hl
    cases hl
  · intro j o t _ hl
    rw [hrep] at hl
    cases hl
  · intro l a w i h hi
    obtain ⟨hun, o, ho, hr⟩ := mem_ready.1 hi
    obtain ⟨t, hd, ht⟩ := hdst i o ho
    refine wpOp_mono ?_ (hstep i o l a w ho h (getD_true_false hun) hr)
    rintro a' w' ⟨v, rfl, hv, hC, hk⟩
    exact rinv_step hdist h ho hd ht hun hr hC hv hk
end Go.Proofs.YtdpllfgnppeneaaGreatDoor

/-
  A REGION THAT DRAWS ITS ORDER, whose operations read and may lay new blocks (of which each result may tell something): each operation is shown once, from what is told of those that it waits for.
-/
namespace Go.Proofs.YtdpllfgnppeneaaGreatDoor
open Go Go.RowKit
set_option linter.unusedVariables false
variable {P : Program} {ops : Array Oper} {Q : Exit → Act → World → Prop}

/-- All results, put. -/
def putAll : List Oper → Nat → (Nat → Value) → Act → Act
  | [], _, _, a => a
  | o :: r, k, vals, a => putAll r (k + 1) vals (a.put o.dst (vals k))
def distB (ops : Array Oper) : Bool := (List.range ops.size).all fun i => (List.range ops.size).all fun j => i == j || ((ops[i]?.bind (·.dst)) != (ops[j]?.bind (·.dst)) || (ops[i]?.bind (·.dst)).isNone)
def dstB (ops : Array Oper) (n : Nat) : Bool := (List.range ops.size).all fun i => match ops[i]?.bind (·.dst) with
  | none => true
  | some t => decide (t < n)
theorem put_size (a : Act) (d : Option Tmp) (v : Value) : (a.put d v).tmps.size = a.tmps.size := by
  cases d <;> simp [Act.put]
theorem put_defers (a : Act) (d : Option Tmp) (v : Value) : (a.put d v).defers = a.defers := by
  cases d <;> rfl
theorem putAll_size (vals : Nat → Value) : ∀ (l : List Oper) (k : Nat) (a : Act), (putAll l k vals a).tmps.size = a.tmps.size ∧ (putAll l k vals a).defers = a.defers
  | [], _, _ => ⟨rfl, rfl⟩
  | o :: r, k, a => by
    obtain ⟨h1, h2⟩ := putAll_size vals r (k + 1) (a.put o.dst (vals k))
    exact ⟨h1.trans (put_size _ _ _), h2.trans (put_defers _ _ _)⟩
theorem putAll_at (vals : Nat → Value) (x : Act) (t : Nat) (ht : t < x.tmps.size) : ∀ (l : List Oper) (k : Nat) (a : Act), a.tmps.size = x.tmps.size → (∀ (i : Nat) (o : Oper), l[i]? = some o → o.dst = some t → vals (k + i) = x.tmps.getD t undef) →
    ((∃ (i : Nat) (o : Oper), l[i]? = some o ∧ o.dst = some t) ∨ a.tmps.getD t undef = x.tmps.getD t undef) → (putAll l k vals a).tmps.getD t undef = x.tmps.getD t undef
  | [], _, a, _, _, h => by
    rcases h with ⟨i, o, h, _⟩ | h
    · simp at h
    · exact h
  | o :: r, k, a, hs, hv, h => by
    refine putAll_at vals x t ht r (k + 1) (a.put o.dst (vals k)) ((put_size _ _ _).trans hs) (fun i o' ho hd => ?_) ?_
    · have := hv (i + 1) o' (by rw [List.getElem?_cons_succ]; exact ho) hd
      rw [show k + 1 + i = k + (i + 1) by omega]
      exact this
    · by_cases e : o.dst = some t
      · right
        have := hv 0 o rfl e
        rw [e]
        show (a.tmps.setIfInBounds t (vals k)).getD t undef = _
        rw [Nat.add_zero] at this
        rw [← this]
        simp [Array.getD, hs, ht]
      · have hne : (a.put o.dst (vals k)).tmps.getD t undef = a.tmps.getD t undef := by
          cases hd : o.dst with
          | none => rfl
          | some d =>
            have hdt : d ≠ t := fun e2 => e (by rw [hd, e2])
            show (a.tmps.setIfInBounds d (vals k)).getD t undef = _
            rw [Array.getD_eq_getD_getElem?, Array.getD_eq_getD_getElem?, Array.getElem?_setIfInBounds_ne hdt]
        rcases h with ⟨i, o', h1, h2⟩ | h
        · cases i with
          | zero =>
            simp at h1
            subst h1
            exact absurd h2 e
          | succ i => exact .inl ⟨i, o', by rw [List.getElem?_cons_succ] at h1; exact h1, h2⟩
        · exact .inr (hne.trans h)
theorem act_ext {a b : Act} (hs : a.tmps.size = b.tmps.size) (hd : a.defers = b.defers) (h : ∀ t, t < b.tmps.size → a.tmps.getD t undef = b.tmps.getD t undef) : a = b := by
  obtain ⟨x, d⟩ := a
  obtain ⟨y, e⟩ := b
  have : x = y := by
    refine Array.ext hs fun i h1 h2 => ?_
    have := h i h2
    simpa [Array.getD, h1, show i < y.size from h2] using this
  subst this
  simp at hd
  rw [hd]
def slotV (o : Oper) (a : Act) : Value := match o.dst with
  | none => undef
  | some t => a.tmps.getD t undef
theorem dist_of (h : distB ops = true) : ∀ (i j : Nat) (oi oj : Oper) (s : Tmp), ops[i]? = some oi → ops[j]? = some oj → oi.dst = some s → oj.dst = some s → i = j := by
  intro i j oi oj s hi hj di dj
  have h1 := List.all_eq_true.1 h i (List.mem_range.2 (Array.getElem?_eq_some_iff.1 hi).1)
  have h2 := List.all_eq_true.1 h1 j (List.mem_range.2 (Array.getElem?_eq_some_iff.1 hj).1)
  rw [hi, hj] at h2
  simp [di, dj] at h2
  exact h2
theorem dst_of {n : Nat} (h : dstB ops n = true) : ∀ (i : Nat) (o : Oper) (t : Nat), ops[i]? = some o → o.dst = some t → t < n := by
  intro i o t hi hd
  have h1 := List.all_eq_true.1 h i (List.mem_range.2 (Array.getElem?_eq_some_iff.1 hi).1)
  rw [hi] at h1
  simpa [hd] using h1
/-- What holds while the region is under way. -/
structure EInv (ops : Array Oper) (a0 : Act) (C : World → Prop) (V : Nat → Value → World → Prop) (l : Array Bool) (a : Act) (w : World) : Prop where
  len : l.size = ops.size
  cls : C w
  size : a.tmps.size = a0.tmps.size
  defers : a.defers = a0.defers
  old : ∀ t, (∀ (i : Nat) (o : Oper), ops[i]? = some o → o.dst ≠ some t) → a.tmps.getD t undef = a0.tmps.getD t undef
  new : ∀ (i : Nat) (o : Oper), ops[i]? = some o → l.getD i false = true → V i (slotV o a) w
theorem einv_step {a0 a : Act} {C : World → Prop} {V : Nat → Value → World → Prop} {l : Array Bool} {w w' : World} {i : Nat} {o : Oper} {v : Value} (hdist : distB ops = true) (hdst : dstB ops a0.tmps.size = true)
    (h : EInv ops a0 C V l a w) (ho : ops[i]? = some o) (hC : C w') (hv : V i (match o.dst with | none => undef | some _ => v) w') (hk : ∀ j u, j ≠ i → V j u w → V j u w') : EInv ops a0 C V (l.setIfInBounds i true) (a.put o.dst v) w' := by
  have hi : i < l.size := by rw [h.len]; exact (Array.getElem?_eq_some_iff.1 ho).1
  refine ⟨by simpa using h.len, hC, (put_size _ _ _).trans h.size, (put_defers _ _ _).trans h.defers, fun s hs => ?_, fun j oj hj hl => ?_⟩
  · rw [← h.old s hs]
    cases hd : o.dst with
    | none => rfl
    | some t =>
      have hne : t ≠ s := fun e => hs i o ho (by rw [hd, e])
      show (a.tmps.setIfInBounds t v).getD s undef = _
      rw [Array.getD_eq_getD_getElem?, Array.getD_eq_getD_getElem?, Array.getElem?_setIfInBounds_ne hne]
  · by_cases e : i = j
    · subst e
      rw [ho] at hj
      cases hj
      have : slotV o (a.put o.dst v) = match o.dst with | none => undef | some _ => v := by
        unfold slotV
        cases hd : o.dst with
        | none => rfl
        | some t =>
          have ht : t < a.tmps.size := by rw [h.size]; exact dst_of hdst i o t ho hd
          show (a.tmps.setIfInBounds t v).getD t undef = v
          simp [Array.getD, ht]
      rw [this]
      exact hv
    · rw [getD_set_ne e] at hl
      have : slotV oj (a.put o.dst v) = slotV oj a := by
        unfold slotV
        cases hd : o.dst with
        | none => rfl
        | some t =>
          cases hdj : oj.dst with
          | none => rfl
          | some s =>
            have hne : t ≠ s := fun e2 => e (dist_of hdist i j o oj t ho hj hd (by rw [hdj, e2]))
            show (a.tmps.setIfInBounds t v).getD s undef = a.tmps.getD s undef
            rw [Array.getD_eq_getD_getElem?, Array.getD_eq_getD_getElem?, Array.getElem?_setIfInBounds_ne hne]
      rw [this]
      exact hk j _ (Ne.symm e) (h.new j oj hj hl)
/-- The results, as a function of the operation's number. -/
def valsOf (ops : Array Oper) (a : Act) (i : Nat) : Value := match ops[i]? with
  | none => undef
  | some o => slotV o a
theorem putAll_of {a0 a : Act} (hs : a.tmps.size = a0.tmps.size) (hd : a.defers = a0.defers) (hold : ∀ t, (∀ (i : Nat) (o : Oper), ops[i]? = some o → o.dst ≠ some t) → a.tmps.getD t undef = a0.tmps.getD t undef) :
    putAll ops.toList 0 (valsOf ops a) a0 = a := by
  obtain ⟨h1, h2⟩ := putAll_size (valsOf ops a) ops.toList 0 a0
  refine act_ext (h1.trans hs.symm) (h2.trans hd.symm) fun t ht => ?_
  refine putAll_at _ a t ht ops.toList 0 a0 hs.symm (fun i o ho hdst => ?_) ?_
  · rw [Array.getElem?_toList] at ho
    rw [Nat.zero_add]
    unfold valsOf
    rw [ho]
    show slotV o a = _
    unfold slotV
    rw [hdst]
  · by_cases e : ∃ (i : Nat) (o : Oper), ops.toList[i]? = some o ∧ o.dst = some t
    · exact .inl e
    · exact .inr (hold t fun i o ho hdst => e ⟨i, o, by rw [Array.getElem?_toList]; exact ho, hdst⟩).symm
/-- **A region that draws its order: each operation once, from what is told of those that it waits for.** -/
theorem wp_region_gen {id : Nat} {a0 : Act} {w0 : World} (hm : P.follows .mixedOrders = true) (C : World → Prop) (V : Nat → Value → World → Prop) (hb : (backB ops && (distB ops && dstB ops a0.tmps.size)) = true) (h0 : C w0.drew)
    (hstep : ∀ (i : Nat) (o : Oper) (w : World) (vals : Nat → Value), ops[i]? = some o → C w → (∀ j, (o.after.any fun e => Region.binds .any e && e.on == j) = true → V j (vals j) w) →
      wpOp P ops Q i (fun a' w' => ∃ v, a' = (putAll ops.toList 0 vals a0).put o.dst v ∧ V i (match o.dst with | none => undef | some _ => v) w' ∧ C w' ∧ ∀ j u, j ≠ i → V j u w → V j u w') (putAll ops.toList 0 vals a0) w)
    (hQ : ∀ (w : World) (vals : Nat → Value), C w → (∀ j, j < ops.size → V j (vals j) w) → Q .normal (putAll ops.toList 0 vals a0) w) : (Code.region id ops true).wp P Q a0 w0 := by
  rw [Bool.and_eq_true, Bool.and_eq_true] at hb
  obtain ⟨hb1, hb2, hb3⟩ := hb
  have hrep : ∀ i, (Array.replicate ops.size false).getD i false = false := fun i => by
    simp only [Array.getD]
    split <;> simp
  have hval : ∀ (l : Array Bool) (a : Act) (w : World), EInv ops a0 C V l a w → ∀ j, j < ops.size → l.getD j false = true → V j (valsOf ops a j) w := by
    intro l a w h j hj hl
    have := h.new j ops[j] (Array.getElem?_eq_getElem hj) hl
    unfold valsOf
    rw [Array.getElem?_eq_getElem hj]
    exact this
  refine wp_region_inv hm (EInv ops a0 C V) ⟨by simp, h0, rfl, rfl, fun _ _ => rfl, fun i o _ hl => by rw [hrep] at hl; cases hl⟩ (fun l a w h hr => ?_) ?_
  · have hall := all_listed hb1 h.len hr
    have := hQ w (valsOf ops a) h.cls (fun j hj => hval l a w h j hj (hall j hj))
    rw [putAll_of h.size h.defers h.old] at this
    exact this
  · intro l a w i h hi
    obtain ⟨hun, o, ho, hr⟩ := mem_ready.1 hi
    have hs := hstep i o w (valsOf ops a) ho h.cls (fun j hj => ?_)
    · rw [putAll_of h.size h.defers h.old] at hs
      refine wpOp_mono ?_ hs
      rintro a' w' ⟨v, rfl, h1, h2, h3⟩
      exact einv_step hb2 hb3 h ho h2 h1 h3
    · obtain ⟨e, he, h2⟩ := Array.any_eq_true'.1 hj
      rw [Bool.and_eq_true, beq_iff_eq] at h2
      have h3 := hr e he h2.1
      have hj2 : e.on < ops.size := by
        have h4 := List.all_eq_true.1 hb1 i (List.mem_range.2 (Array.getElem?_eq_some_iff.1 ho).1)
        rw [ho] at h4
        have h5 := of_decide_eq_true (Array.all_eq_true'.1 h4 e he)
        have := (Array.getElem?_eq_some_iff.1 ho).1
        omega
      have := hval l a w h e.on hj2 h3
      rw [← h2.2]
      exact this
/-- The same where all that was there is as it was. -/
theorem wp_region_each {id : Nat} {a0 : Act} {w0 : World} (hm : P.follows .mixedOrders = true) (V : Nat → Value → World → Prop) (hb : (backB ops && (distB ops && dstB ops a0.tmps.size)) = true)
    (hV : ∀ i v w w', V i v w → Below w.heap.size w w' → V i v w')
    (hstep : ∀ (i : Nat) (o : Oper) (w : World) (vals : Nat → Value), ops[i]? = some o → Below w0.heap.size w0 w → (∀ j, (o.after.any fun e => Region.binds .any e && e.on == j) = true → V j (vals j) w) →
      wpOp P ops Q i (fun a' w' => ∃ v, a' = (putAll ops.toList 0 vals a0).put o.dst v ∧ V i (match o.dst with | none => undef | some _ => v) w' ∧ Below w.heap.size w w') (putAll ops.toList 0 vals a0) w)
    (hQ : ∀ (w : World) (vals : Nat → Value), Below w0.heap.size w0 w → (∀ j, j < ops.size → V j (vals j) w) → Q .normal (putAll ops.toList 0 vals a0) w) : (Code.region id ops true).wp P Q a0 w0 :=
  wp_region_gen hm (fun w => Below w0.heap.size w0 w) V hb (Below.refl _ _).drew (fun i o w vals ho hC hd => wpOp_mono (fun a' w' ⟨v, e, h1, h2⟩ => ⟨v, e, h1, hC.trans (h2.mono hC.size), fun j u _ hu => hV j u w w' hu h2⟩) (hstep i o w vals ho hC hd)) hQ
/-- What is told of a result: its value, or something that stays true while new blocks are laid. -/
inductive Told where
  | is (v : Value)
  | such (p : Value → World → Prop) (h : ∀ v w w', p v w → Below w.heap.size w w' → p v w')
def Told.holds : Told → Value → World → Prop
  | .is v, u, _ => u = v
  | .such p _, u, w => p u w
def toldAt (Vs : List Told) (i : Nat) : Value → World → Prop := match Vs[i]? with
  | none => fun _ _ => True
  | some t => t.holds
theorem toldAt_kept (Vs : List Told) (i : Nat) (v : Value) (w w' : World) (h : toldAt Vs i v w) (hb : Below w.heap.size w w') : toldAt Vs i v w' := by
  unfold toldAt at *
  cases hi : Vs[i]? with
  | none => trivial
  | some t =>
    rw [hi] at h
    cases t with
    | is x => exact h
    | such p hp => exact hp _ _ _ h hb
/-- One operation: as its guard says. -/
def gwp (P : Program) (Q : Exit → Act → World → Prop) (o : Oper) (vals : Nat → Value) (a : Act) (w : World) (K : Act → World → Prop) : Prop := match o.guard with
  | none => o.wp P a w K Q
  | some (j, want) => (vals j = .bool want ∧ o.wp P a w K Q) ∨ (vals j = .bool (!want) ∧ K (a.put o.dst undef) w)
theorem gwp_none {o : Oper} {vals : Nat → Value} {a : Act} {w : World} {K : Act → World → Prop} (hg : o.guard = none) (h : o.wp P a w K Q) : gwp P Q o vals a w K := by
  unfold gwp
  rw [hg]
  exact h
theorem gwp_some {o : Oper} {vals : Nat → Value} {a : Act} {w : World} {K : Act → World → Prop} {j : Nat} {want : Bool} (hg : o.guard = some (j, want)) (hv : vals j = .bool want) (h : o.wp P a w K Q) : gwp P Q o vals a w K := by
  unfold gwp
  rw [hg]
  exact .inl ⟨hv, h⟩
theorem gwp_skip {o : Oper} {vals : Nat → Value} {a : Act} {w : World} {K : Act → World → Prop} {j : Nat} {want : Bool} (hg : o.guard = some (j, want)) (hv : vals j = .bool (!want)) (h : K (a.put o.dst undef) w) : gwp P Q o vals a w K := by
  unfold gwp
  rw [hg]
  exact .inr ⟨hv, h⟩
/-- Each operation of a list, from what is told of those that it waits for. -/
def StepsAt (P : Program) (Q : Exit → Act → World → Prop) (all : List Oper) (a0 : Act) (w0 : World) (Vs : List Told) : Nat → List Oper → Prop
  | _, [] => True
  | i, o :: r => (∀ (w : World) (vals : Nat → Value), Below w0.heap.size w0 w → (∀ j, (o.after.toList.any fun e => Region.binds .any e && e.on == j) = true → toldAt Vs j (vals j) w) →
      ∀ K : Act → World → Prop, (∀ v w', toldAt Vs i (match o.dst with | none => undef | some _ => v) w' → Below w.heap.size w w' → K ((putAll all 0 vals a0).put o.dst v) w') → gwp P Q o vals (putAll all 0 vals a0) w K) ∧ StepsAt P Q all a0 w0 Vs (i + 1) r
theorem stepsAt_get {all : List Oper} {a0 : Act} {w0 : World} {Vs : List Told} : ∀ {l : List Oper} {k i : Nat} {o : Oper}, StepsAt P Q all a0 w0 Vs k l → l[i]? = some o →
    ∀ (w : World) (vals : Nat → Value), Below w0.heap.size w0 w → (∀ j, (o.after.toList.any fun e => Region.binds .any e && e.on == j) = true → toldAt Vs j (vals j) w) →
      ∀ K : Act → World → Prop, (∀ v w', toldAt Vs (k + i) (match o.dst with | none => undef | some _ => v) w' → Below w.heap.size w w' → K ((putAll all 0 vals a0).put o.dst v) w') → gwp P Q o vals (putAll all 0 vals a0) w K
  | [], _, _, _, _, h => by simp at h
  | x :: r, k, 0, o, hs, h => by
    simp at h
    subst h
    exact hs.1
  | x :: r, k, i + 1, o, hs, h => by
    rw [List.getElem?_cons_succ] at h
    have := stepsAt_get hs.2 h
    rw [show k + (i + 1) = k + 1 + i by omega]
    exact this
theorem putAll_other (vals : Nat → Value) (t : Nat) : ∀ (l : List Oper) (k : Nat) (a : Act), (∀ (i : Nat) (o : Oper), l[i]? = some o → o.dst ≠ some t) → (putAll l k vals a).tmps[t]? = a.tmps[t]?
  | [], _, _, _ => rfl
  | o :: r, k, a, h => by
    refine (putAll_other vals t r (k + 1) (a.put o.dst (vals k)) fun i o' ho => h (i + 1) o' (by rw [List.getElem?_cons_succ]; exact ho)).trans ?_
    cases hd : o.dst with
    | none => rfl
    | some d =>
      have hne : d ≠ t := fun e => h 0 o rfl (by rw [hd, e])
      show (a.tmps.setIfInBounds d (vals k))[t]? = _
      rw [Array.getElem?_setIfInBounds_ne hne]
theorem putAll_slot (vals : Nat → Value) (t : Nat) : ∀ (l : List Oper) (k i : Nat) (o : Oper) (a : Act), l[i]? = some o → o.dst = some t → t < a.tmps.size → (∀ (j : Nat) (o' : Oper), i < j → l[j]? = some o' → o'.dst ≠ some t) → (putAll l k vals a).tmps[t]? = some (vals (k + i))
  | [], _, _, _, _, h, _, _, _ => by simp at h
  | x :: r, k, 0, o, a, h, hd, ht, hn => by
    simp at h
    subst h
    refine (putAll_other vals t r (k + 1) (a.put x.dst (vals k)) fun i o' ho => hn (i + 1) o' (by omega) (by rw [List.getElem?_cons_succ]; exact ho)).trans ?_
    rw [hd]
    show (a.tmps.setIfInBounds t (vals k))[t]? = _
    simp [ht]
  | x :: r, k, i + 1, o, a, h, hd, ht, hn => by
    rw [List.getElem?_cons_succ] at h
    rw [show k + (i + 1) = k + 1 + i by omega]
    exact putAll_slot vals t r (k + 1) i o (a.put x.dst (vals k)) h hd (by rw [put_size]; exact ht) fun j o' hj ho => hn (j + 1) o' (by omega) (by rw [List.getElem?_cons_succ]; exact ho)
def guardB (l : List Oper) : Bool := l.all fun o => match o.guard with
  | none => true
  | some (j, _) => match l[j]? with
    | none => false
    | some oj => oj.dst.isSome
theorem yielded_put {l : List Oper} {a0 : Act} {vals : Nat → Value} {j : Nat} {oj : Oper} (h1 : distB l.toArray = true) (h2 : dstB l.toArray a0.tmps.size = true) (hj : l[j]? = some oj) (hd : oj.dst.isSome = true) {b : Bool} (hv : vals j = .bool b) :
    yielded l.toArray (putAll l 0 vals a0).tmps j = some b := by
  cases hdj : oj.dst with
  | none => rw [hdj] at hd; cases hd
  | some t =>
    have hja : l.toArray[j]? = some oj := by simpa using hj
    have ht := dst_of h2 j oj t hja hdj
    have := putAll_slot vals t l 0 j oj a0 hj hdj ht fun i o' hij ho e => by
      have hi : l.toArray[i]? = some o' := by simpa using ho
      have := dist_of h1 j i oj o' t hja hi hdj e
      omega
    unfold yielded
    rw [hja]
    simp only [Option.bind_some, hdj, this, Nat.zero_add, hv]
theorem wpOp_of_gwp {l : List Oper} {a0 : Act} {vals : Nat → Value} {i : Nat} {o : Oper} {w : World} {K : Act → World → Prop} (h1 : distB l.toArray = true) (h2 : dstB l.toArray a0.tmps.size = true) (hol : l[i]? = some o) (hgb : guardB l = true)
    (hs : gwp P Q o vals (putAll l 0 vals a0) w K) : wpOp P l.toArray Q i K (putAll l 0 vals a0) w := by
  have hg := List.all_eq_true.1 hgb o (List.mem_of_getElem? hol)
  have ho : l.toArray[i]? = some o := by simpa using hol
  unfold wpOp
  rw [ho]
  unfold gwp at hs
  obtain ⟨dst, op, ty, pos, after, guard⟩ := o
  simp only [Region.wanted]
  cases guard with
  | none => exact .inl hs
  | some g =>
    obtain ⟨j, want⟩ := g
    simp only at hs hg
    cases hj : l[j]? with
    | none => rw [hj] at hg; cases hg
    | some oj =>
      rw [hj] at hg
      rcases hs with ⟨hv, hs⟩ | ⟨hv, hs⟩
      · have := yielded_put h1 h2 hj hg hv
        simp only [this, beq_self_eq_true, if_true]
        exact .inl hs
      · have := yielded_put h1 h2 hj hg hv
        have hne : (some (!want) == some want) = false := by cases want <;> rfl
        simp only [this, hne, Bool.false_eq_true, if_false]
        exact hs
theorem wp_region_told {id : Nat} {a0 : Act} {w0 : World} {l : List Oper} (Vs : List Told) (hm : P.follows .mixedOrders = true) (hb : ((backB l.toArray && (distB l.toArray && dstB l.toArray a0.tmps.size)) && guardB l) = true)
    (hstep : StepsAt P Q l a0 w0 Vs 0 l)
    (hQ : ∀ (w : World) (vals : Nat → Value), Below w0.heap.size w0 w → (∀ j, j < l.length → toldAt Vs j (vals j) w) → Q .normal (putAll l 0 vals a0) w) : (Code.region id l.toArray true).wp P Q a0 w0 := by
  rw [Bool.and_eq_true] at hb
  have hb' := hb.1
  rw [Bool.and_eq_true, Bool.and_eq_true] at hb'
  refine wp_region_each (ops := l.toArray) hm (toldAt Vs) hb.1 (toldAt_kept Vs) (fun i o w vals ho hC hd => ?_) (fun w vals hC h => hQ w vals hC fun j hj => h j (by simpa using hj))
  have hol : l[i]? = some o := by simpa using ho
  refine wpOp_of_gwp hb'.2.1 hb'.2.2 hol hb.2 ?_
  exact stepsAt_get hstep hol w vals hC (fun j hj => hd j (by rw [← Array.any_toList]; exact hj)) _ fun v w' h1 h2 => ⟨v, rfl, by rw [Nat.zero_add] at h1; exact h1, h2⟩
theorem told_at {Vs : List Told} {i : Nat} {v : Value} {w : World} {t : Told} (h : toldAt Vs i v w) (ht : Vs[i]? = some t) : t.holds v w := by
  unfold toldAt at h
  rw [ht] at h
  exact h
end Go.Proofs.YtdpllfgnppeneaaGreatDoor

/-
  SMALL WORDS that every chapter's walks use.
-/
namespace Go.Proofs.YtdpllfgnppeneaaGreatDoor
open Go.RowKit
set_option linter.unusedVariables false
set_option linter.unusedSimpArgs false

theorem ret_bool {a b : Bool} (h : a = b) : Ending.returned (.bool a) = .returned (.bool b) := by rw [h]
theorem ret_int {k : IntKind} {a b : Int} (h : a = b) : Ending.returned (.int k a) = .returned (.int k b) := by rw [h]
theorem ret_i64 {a b : Int} (h : a = b) : Ending.returned (.int .i64 a) = .returned (.int .i64 b) := by rw [h]
theorem ret_str {a b : ByteArray} (h : a = b) : Ending.returned (.string a) = .returned (.string b) := by rw [h]
theorem mono_eq {P : Program} {f : FuncId} {args : Array Value} {w : World} {v v' : Value} {R : World → Prop} (h : Calls P f args w fun e w' => e = .returned v ∧ R w') (hv : v = v') : Calls P f args w fun e w' => e = .returned v' ∧ R w' := by
  subst hv
  exact h
theorem cell_z {w wr : World} {a : Addr} {v : Value} (hz : Hid (∃ z, wr = w.drewN z)) (h : w.cell? a = some v) : wr.cell? a = some v := by
  obtain ⟨z, rfl⟩ := hz.out
  exact h
theorem drew_z {w wr : World} (hz : Hid (∃ z, wr = w.drewN z)) (k : Nat) : ∃ z, wr.drewN k = w.drewN z := by
  obtain ⟨z, rfl⟩ := hz.out
  exact ⟨_, World.drewN_drewN _ _ _⟩
theorem ba_ext {a b : ByteArray} (h : a.data.toList = b.data.toList) : a = b := by
  cases a with | mk d => cases b with | mk e => cases d with | mk p => cases e with | mk q => simp at h; rw [h]

theorem beq_bytes (y x : ByteArray) : (y.toList == x.toList) = decide (y = x) := by
  rw [Lib.toList_data, Lib.toList_data, Bool.eq_iff_iff, beq_iff_eq, decide_eq_true_iff]
  exact ⟨fun h => ba_ext h, fun h => by rw [h]⟩

/-- A slice of strings reads as l. -/
def SR (w : World) (B : Nat) (A : Option Addr) (n : Nat) (l : List ByteArray) : Prop := Reads w B 1 A n (l.map .string)
/-- A slice of integers reads as l. -/
def IR (w : World) (B : Nat) (A : Option Addr) (n : Nat) (l : List Int) : Prop := Reads w B 1 A n (l.map (.int .i64))
section
variable {w w' : World} {B B' n k : Nat} {A : Option Addr}
theorem SR.at_ {l : List ByteArray} (h : SR w B A n l) (hk : k < n) :
    ∃ ad x, A = some ad ∧ ad.block < B ∧ l[k]? = some x ∧ w.cell? (ad.add k) = some (.string x) := by
  obtain ⟨ad, u, e, hb, hx, hc⟩ := Reads.at_ h hk
  rw [List.getElem?_map] at hx
  cases hz : l[k]? with
  | none => rw [hz] at hx; cases hx
  | some x => rw [hz] at hx; cases hx; exact ⟨ad, x, e, hb, rfl, hc⟩
theorem IR.at_ {l : List Int} (h : IR w B A n l) (hk : k < n) :
    ∃ ad x, A = some ad ∧ ad.block < B ∧ l[k]? = some x ∧ w.cell? (ad.add k) = some (.int .i64 x) := by
  obtain ⟨ad, u, e, hb, hx, hc⟩ := Reads.at_ h hk
  rw [List.getElem?_map] at hx
  cases hz : l[k]? with
  | none => rw [hz] at hx; cases hx
  | some x => rw [hz] at hx; cases hx; exact ⟨ad, x, e, hb, rfl, hc⟩
theorem SR.len {l : List ByteArray} (h : SR w B A n l) : l.length = n := by simpa using h.1
theorem IR.len {l : List Int} (h : IR w B A n l) : l.length = n := by simpa using h.1
theorem Reads.on {size : Nat} {xs : List Value} (h : Reads w w.heap.size size A n xs) (hb : Below w.heap.size w w') : Reads w' w'.heap.size size A n xs := (h.below hb).more hb.size
theorem SR.on {l : List ByteArray} (h : SR w w.heap.size A n l) (hb : Below w.heap.size w w') : SR w' w'.heap.size A n l := Reads.on h hb
theorem IR.on {l : List Int} (h : IR w w.heap.size A n l) (hb : Below w.heap.size w w') : IR w' w'.heap.size A n l := Reads.on h hb
end
theorem take_snoc_eq {α : Type} {xs ys : List α} {k : Nat} {x y : α} (h : xs.take k = ys.take k) (hx : xs[k]? = some x) (hy : ys[k]? = some y) (he : x = y) : xs.take (k + 1) = ys.take (k + 1) := by
  rw [List.take_add_one, List.take_add_one, h, hx, hy, he]
/-- A new block reads as its cells. -/
theorem reads_new (w : World) (e : TypeId) (c : Array Value) : Reads (w.alloc (.cells c e)) (w.alloc (.cells c e)).heap.size 1 (some ⟨w.heap.size, 0, none⟩) c.size c.toList := by
  refine ⟨by simp, fun _ => ⟨_, rfl, by simp, fun j u hu => ?_⟩⟩
  have e1 : (⟨w.heap.size, 0, none⟩ : Addr).add j = ⟨w.heap.size, j, none⟩ := by
    unfold Addr.add
    split
    · rename_i h; simp [h]
    · simp
  rw [e1, World.cell?_alloc_at _ _ _ _ rfl]
  simpa using hu
end Go.Proofs.YtdpllfgnppeneaaGreatDoor

/-
  ROWS THAT THE CALL OWNS: appended to one element at a time, several of them side by side.
-/
namespace Go.Proofs.YtdpllfgnppeneaaGreatDoor
open Go.RowKit
set_option linter.unusedVariables false
set_option linter.unusedSimpArgs false

theorem own_base {w : World} {base base' : Nat} {e : TypeId} {size : Nat} {v : Value} {n : Nat} {xs : List Value} (h : w.ownsRow base e size v n xs) (hb : base' ≤ base) : w.ownsRow base' e size v n xs := by
  refine ⟨h.1, ?_⟩
  rcases h.2 with h2 | ⟨g, cap, cur, hv, hg, r⟩
  · exact .inl h2
  · exact .inr ⟨g, cap, cur, hv, Nat.le_trans hb hg, r⟩

/-- Two rows lie in two blocks. -/
def Apart (u v : Value) : Prop := ∀ b, u.ownBlock = some b → v.ownBlock ≠ some b
theorem Apart.symm {u v : Value} (h : Apart u v) : Apart v u := fun b hb hu => h b hu hb
theorem Apart.nil_left (v : Value) : Apart (.slice none 0 0) v := fun b hb => by simp [Value.ownBlock] at hb
theorem Apart.nil_right (v : Value) : Apart v (.slice none 0 0) := fun b _ => by simp [Value.ownBlock]

/-- An append behind one new block: another row is still owned, and still apart. -/
theorem own_beside {w w' : World} {o : Obj} {base e size n : Nat} {u v v' : Value} {ys : List Value} (hu : w.ownsRow base e size u n ys) (hg : (w.alloc o).grownBy w' v.ownBlock) (hap : Apart u v)
    (hat : v'.ownBlock = v.ownBlock ∨ v'.ownBlock = some (w.alloc o).heap.size) : w'.ownsRow base e size u n ys ∧ Apart u v' := by
  constructor
  · refine (hu.alloc o).kept hg ?_
    cases hb : u.ownBlock with
    | none => exact .inl rfl
    | some b => exact .inr (fun he => hap b hb he.symm)
  · intro b hb he
    rcases hat with h | h
    · exact hap b hb (h ▸ he)
    · rw [h] at he
      have := (hu.lt b hb).2
      simp at he
      omega
theorem below_append {a w w' : World} {o : Obj} {B base e size n : Nat} {v : Value} {xs : List Value} (h : Below B a w) (hB : B ≤ w.heap.size) (hv : w.ownsRow base e size v n xs) (hbase : B ≤ base) (hg : (w.alloc o).grownBy w' v.ownBlock) : Below B a w' :=
  (h.alloc hB o).grown hg (by simp; omega) fun k hk => Nat.le_trans hbase (hv.lt k hk).1

theorem below_mono_left {B : Nat} {a b c : World} (h : Below B a b) (k : Below b.heap.size b c) (hB : B ≤ b.heap.size) : Below B a c := h.trans (k.mono hB)

/-- What an owned row reads as, to whoever it is handed. -/
theorem own_form {w : World} {base e n : Nat} {v : Value} {xs : List Value} (h : w.ownsRow base e 1 v n xs) :
    ∃ A c, v = .slice A n c ∧ n ≤ c ∧ c ≤ 9223372036854775807 ∧ Reads w w.heap.size 1 A n xs := by
  rcases h.2 with ⟨rfl, rfl⟩ | ⟨g, cap, cur, rfl, hg, hh, hn, hm, hs, ht⟩
  · have : xs = [] := List.eq_nil_of_length_eq_zero (by simpa using h.1)
    subst this
    exact ⟨none, 0, rfl, Nat.le_refl _, by omega, Reads.none_⟩
  · refine ⟨some ⟨g, 0, none⟩, cap, rfl, hn, by unfold maxLen at hm; exact hm, h.1, fun _ => ⟨_, rfl, (h.lt g rfl).2, h.cells (g := g) rfl⟩⟩

theorem own_below {w w' : World} {base e size n : Nat} {v : Value} {xs : List Value} (h : w.ownsRow base e size v n xs) (hb : Below w.heap.size w w') : w'.ownsRow base e size v n xs := by
  refine ⟨h.1, ?_⟩
  rcases h.2 with h2 | ⟨g, cap, cur, hv, hg, hh, r⟩
  · exact .inl h2
  · exact .inr ⟨g, cap, cur, hv, hg, (hb.block g (Array.getElem?_eq_some_iff.1 hh).1).trans hh, r⟩
theorem info_int : (Tryz.prog.info? 3).map (fun i => (i.zero, i.size, i.bytes)) = some (some (.int .i64 0), 1, 8) := by kernel_rfl
theorem info_string : (Tryz.prog.info? 9).map (fun i => (i.zero, i.size, i.bytes)) = some (some (.string .empty), 1, 16) := by kernel_rfl

/-- 'append(s, x)' onto a row of the call's own: x has just been laid in a block of its own. What lies elsewhere is kept. -/
theorem wpList_app1 {P : Program} {ops : Array Oper} {rest : List Oper} {o : Oper} {a : Act} {Q : Exit → Act → World → Prop} {w0 : World} {x : Value} (hgd : o.guard = none) (s y : Operand) (t : TypeId)
    (ho : o.op = .call { callee := .builtin .append, args := #[s, y], argTypes := #[t, t] })
    (base : Nat) (e : TypeId) (bytes : Nat) (z : Value) (hinfo : (P.info? e).map (fun i => (i.zero, i.size, i.bytes)) = some (some z, 1, bytes)) (hzc : z.cells.size = 1) (ht : P.underlying t = some (.slice e))
    {v : Value} {n : Nat} {xs : List Value} (hs : a.eval s = v) (hown : w0.ownsRow base e 1 v n xs) (hy : a.eval y = .slice (some ⟨w0.heap.size, 0, none⟩) 1 1) (h1 : x.oneCell' = true)
    (h63 : n + 1 ≤ 9223372036854775807) (hbytes : (n + 1) * bytes ≤ 140737488355328) (hbase : base ≤ w0.heap.size)
    (h : ∀ v' w', w'.ownsRow base e 1 v' (n + 1) (xs ++ [x]) → Below base w0 w' → w0.heap.size + 1 ≤ w'.heap.size →
      (∀ (base2 e2 size2 : Nat) (u : Value) (m : Nat) (ys : List Value), w0.ownsRow base2 e2 size2 u m ys → Apart u v → w'.ownsRow base2 e2 size2 u m ys ∧ Apart u v') → wpList P ops Q rest (a.put o.dst v') w') :
    wpList P ops Q (o :: rest) a (w0.alloc (.cells #[x] e)) := by
  obtain ⟨i0, hi, hz0, hz1, hz2⟩ := info_parts hinfo
  refine wpList_append_own_at _ hgd s y t ho base e i0 z 1 bytes ht hi hz0 hz1 hz2 hzc (by decide) v n xs hs (hown.alloc _) ⟨w0.heap.size, 0, none⟩ 1 1 [x] hy rfl (cell_one_new _ _ _) (by simpa using h1) (by unfold maxLen; omega) hbytes (by simp; omega) ?_
  intro v' w' hown' hgrow _ hat
  refine h v' w' hown' (below_append (Below.refl base w0) hbase hown (Nat.le_refl _) hgrow) (by have := hgrow.size; simpa using this) ?_
  intro base2 e2 size2 u m ys hu hap
  exact own_beside hu hgrow hap hat
end Go.Proofs.YtdpllfgnppeneaaGreatDoor

/-
  ROWS OF RECORDS: slices whose elements are structs of several cells, read, and owned by the call.
-/
namespace Go.Proofs.YtdpllfgnppeneaaGreatDoor
open Go.RowKit
set_option linter.unusedVariables false
set_option linter.unusedSimpArgs false

section
variable {α : Type} {f : α → List Value} {s : Nat}
theorem flat_len (hf : ∀ x, (f x).length = s) (l : List α) : (l.flatMap f).length = l.length * s := by
  induction l with
  | nil => simp
  | cons x t ih => rw [List.flatMap_cons, List.length_append, hf, ih, List.length_cons, Nat.add_mul]; omega
theorem flat_at (hf : ∀ x, (f x).length = s) {l : List α} {k j : Nat} {x : α} (h : l[k]? = some x) (hj : j < s) : (l.flatMap f)[k * s + j]? = (f x)[j]? := by
  induction l generalizing k with
  | nil => simp at h
  | cons q t ih =>
    rw [List.flatMap_cons]
    cases k with
    | zero =>
      simp at h
      subst h
      rw [Nat.zero_mul, Nat.zero_add, List.getElem?_append_left (by rw [hf]; exact hj)]
    | succ k =>
      rw [List.getElem?_cons_succ] at h
      rw [List.getElem?_append_right (by rw [hf, Nat.add_mul]; omega), hf, show (k + 1) * s + j - s = k * s + j by rw [Nat.add_mul]; omega]
      exact ih h
end
theorem field_of {w : World} {p : Addr} {i : Nat} {v : Value} (hi : 0 < i) (h : w.cell? (p.add i) = some v) : w.cell? ⟨p.block, p.off + i, none⟩ = some v := by
  unfold Addr.add at h
  rw [if_neg (by omega)] at h
  exact h
/-- A slice of records, as it is read. -/
def RecR {α : Type} (f : α → List Value) (s : Nat) (w : World) (B : Nat) (A : Option Addr) (n : Nat) (l : List α) : Prop := Reads w B s A n (l.flatMap f) ∧ l.length = n
section
variable {α : Type} {f : α → List Value} {s B n k : Nat} {w w' : World} {A : Option Addr} {l : List α}
theorem RecR.on (h : RecR f s w w.heap.size A n l) (hb : Below w.heap.size w w') : RecR f s w' w'.heap.size A n l := ⟨Reads.on h.1 hb, h.2⟩
theorem RecR.below (h : RecR f s w B A n l) (hb : Below B w w') : RecR f s w' B A n l := ⟨h.1.below hb, h.2⟩
theorem RecR.none_ : RecR f s w B none 0 [] := ⟨⟨by simp, fun h => by omega⟩, rfl⟩
/-- The cells of one record: the first at the record's own address, the others behind it. -/
theorem RecR.at_ (hf : ∀ x, (f x).length = s) (hs : 0 < s) (h : RecR f s w B A n l) (hk : k < n) :
    ∃ ad x, A = some ad ∧ ad.block < B ∧ l[k]? = some x ∧ (∀ u, (f x)[0]? = some u → w.cell? (ad.add (k * s)) = some u) ∧ ∀ j u, 0 < j → (f x)[j]? = some u → w.cell? ⟨(ad.add (k * s)).block, (ad.add (k * s)).off + j, none⟩ = some u := by
  obtain ⟨ad, e, hb, hc⟩ := h.1.2 (by omega)
  have hlt : k < l.length := by have := h.2; omega
  have hp : l[k]? = some l[k] := List.getElem?_eq_getElem hlt
  refine ⟨ad, l[k], e, hb, hp, fun u hu => ?_, fun j u hj hu => ?_⟩
  · have := hc (k * s + 0) u (by rw [flat_at hf hp hs]; exact hu)
    exact this
  · have hjs : j < s := by have := (List.getElem?_eq_some_iff.1 hu).1; rw [hf] at this; exact this
    have := hc (k * s + j) u (by rw [flat_at hf hp hjs]; exact hu)
    rw [← add_of_add] at this
    exact field_of hj this
end
/-- A row of records of the call's own. -/
def OwnR {α : Type} (f : α → List Value) (s : Nat) (e : TypeId) (w : World) (base : Nat) (v : Value) (l : List α) : Prop := w.ownsRow base e s v l.length (l.flatMap f)
section
variable {α : Type} {f : α → List Value} {s base : Nat} {e : TypeId} {w w' : World} {v : Value} {l : List α}
theorem OwnR.nil : OwnR f s e w base (.slice none 0 0) [] := World.ownsRow_nil _ _ _ _
theorem OwnR.on (h : OwnR f s e w base v l) (hb : Below w.heap.size w w') : OwnR f s e w' base v l := own_below h hb
theorem OwnR.form (h : OwnR f s e w base v l) : ∃ A c, v = .slice A l.length c ∧ l.length ≤ c ∧ c ≤ 9223372036854775807 ∧ RecR f s w w.heap.size A l.length l := by
  rcases h.2 with ⟨rfl, h0⟩ | ⟨g, cap, cur, rfl, hg, hh, hn, hm, hs, ht⟩
  · have hl : l = [] := List.eq_nil_of_length_eq_zero h0
    subst hl
    exact ⟨none, 0, rfl, Nat.le_refl _, by omega, RecR.none_⟩
  · exact ⟨some ⟨g, 0, none⟩, cap, rfl, hn, by unfold maxLen at hm; exact hm, ⟨h.1, fun _ => ⟨_, rfl, (h.lt g rfl).2, h.cells (g := g) rfl⟩⟩, rfl⟩
theorem OwnR.snoc {x : α} (h : w.ownsRow base e s v (l.length + 1) (l.flatMap f ++ f x)) : OwnR f s e w base v (l ++ [x]) := by
  show World.ownsRow _ _ _ _ _ _ _
  rw [List.length_append, List.length_singleton, List.flatMap_append]
  simpa using h
end
/-- 'append(s, x)', x a record that has just been laid in a block of its own. -/
theorem wpList_appN {P : Program} {ops : Array Oper} {rest : List Oper} {o : Oper} {a : Act} {Q : Exit → Act → World → Prop} {w0 : World} {c : Array Value} (hgd : o.guard = none) (s yy : Operand) (t : TypeId)
    (ho : o.op = .call { callee := .builtin .append, args := #[s, yy], argTypes := #[t, t] })
    (base : Nat) (e : TypeId) (size bytes : Nat) (z : Value) (hinfo : (P.info? e).map (fun i => (i.zero, i.size, i.bytes)) = some (some z, size, bytes)) (hzc : z.cells.size = size) (hs0 : 0 < size) (ht : P.underlying t = some (.slice e))
    {v : Value} {n : Nat} {xs : List Value} (hs : a.eval s = v) (hown : w0.ownsRow base e size v n xs) (hy : a.eval yy = .slice (some ⟨w0.heap.size, 0, none⟩) 1 1) (hc : c.toList.length = size) (h1 : ∀ u ∈ c.toList, u.oneCell' = true)
    (h63 : n + 1 ≤ 9223372036854775807) (hbytes : (n + 1) * bytes ≤ 140737488355328) (hbase : base ≤ w0.heap.size)
    (h : ∀ v' w', w'.ownsRow base e size v' (n + 1) (xs ++ c.toList) → Below base w0 w' → wpList P ops Q rest (a.put o.dst v') w') :
    wpList P ops Q (o :: rest) a (w0.alloc (.cells c e)) := by
  obtain ⟨i0, hi, hz0, hz1, hz2⟩ := info_parts hinfo
  refine wpList_append_own_at _ hgd s yy t ho base e i0 z size bytes ht hi hz0 hz1 hz2 hzc hs0 v n xs hs (hown.alloc _) ⟨w0.heap.size, 0, none⟩ 1 1 c.toList hy (by rw [hc, Nat.one_mul]) ?_ h1 (by unfold maxLen; omega) hbytes (by simp; omega) ?_
  · intro j u hu
    have e1 : (⟨w0.heap.size, 0, none⟩ : Addr).add j = ⟨w0.heap.size, j, none⟩ := by
      unfold Addr.add
      split
      · rename_i h; simp [h]
      · simp
    rw [e1, World.cell?_alloc_at _ _ _ _ rfl]
    simpa using hu
  · intro v' w' hown' hgrow _ hat
    exact h v' w' hown' (below_append (Below.refl base w0) hbase hown (Nat.le_refl _) hgrow)
end Go.Proofs.YtdpllfgnppeneaaGreatDoor
