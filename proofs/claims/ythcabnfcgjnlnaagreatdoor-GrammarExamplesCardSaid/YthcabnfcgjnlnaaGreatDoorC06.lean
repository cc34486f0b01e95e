import Derived.Test.YthcabnfcgjnlnaaGreatDoorC05
import Derived.Deep.MidRow
import Derived.Deep.Upon
set_option linter.unusedVariables false
set_option linter.unusedSimpArgs false
namespace Go.Proofs.YthcabnfcgjnlnaaGreatDoor
open Go Go.RowKit
variable {P : Program} {ops : Array Oper} {Q : Exit → Act → World → Prop}
def putAll : List Oper → Nat → (Nat → Value) → Act → Act
 | [], _, _, a => a
 | o :: r, k, vals, a => putAll r (k + 1) vals (a.put o.dst (vals k))
def distB (ops : Array Oper) : Bool := (List.range ops.size).all fun i => (List.range ops.size).all fun j => i == j || ((ops[i]?.bind (·.dst)) != (ops[j]?.bind (·.dst)) || (ops[i]?.bind (·.dst)).isNone)
def dstB (ops : Array Oper) (n : Nat) : Bool := (List.range ops.size).all fun i => match ops[i]?.bind (·.dst) with
 | none => true
 | some t => decide (t < n)
theorem put_size (a : Act) (d : Option Tmp) (v : Value) : (a.put d v).tmps.size = a.tmps.size := by
 cases d <;> simp [Act.put]
theorem put_defers (a : Act) (d : Option Tmp) (v : Value) : (a.put d v).defers = a.defers := by
 cases d <;> rfl
theorem putAll_size (vals : Nat → Value) : ∀ (l : List Oper) (k : Nat) (a : Act), (putAll l k vals a).tmps.size = a.tmps.size ∧ (putAll l k vals a).defers = a.defers
 | [], _, _ => ⟨rfl, rfl⟩
 | o :: r, k, a => by
  obtain ⟨h1, h2⟩ := putAll_size vals r (k + 1) (a.put o.dst (vals k))
  exact ⟨h1.trans (put_size _ _ _), h2.trans (put_defers _ _ _)⟩
theorem putAll_at (vals : Nat → Value) (x : Act) (t : Nat) (ht : t < x.tmps.size) : ∀ (l : List Oper) (k : Nat) (a : Act), a.tmps.size = x.tmps.size → (∀ (i : Nat) (o : Oper), l[i]? = some o → o.dst = some t → vals (k + i) = x.tmps.getD t undef) →
    ((∃ (i : Nat) (o : Oper), l[i]? = some o ∧ o.dst = some t) ∨ a.tmps.getD t undef = x.tmps.getD t undef) → (putAll l k vals a).tmps.getD t undef = x.tmps.getD t undef
  | [], _, a, _, _, h => by
    rcases h with ⟨i, o, h, _⟩ | h
    · simp at h
    · exact h
  | o :: r, k, a, hs, hv, h => by
    refine putAll_at vals x t ht r (k + 1) (a.put o.dst (vals k)) ((put_size _ _ _).trans hs) (fun i o' ho hd => ?_) ?_
    · have := hv (i + 1) o' (by rw [List.getElem?_cons_succ]; exact ho) hd
      rw [show k + 1 + i = k + (i + 1) by omega]
      exact this
    · by_cases e : o.dst = some t
      · right
        have := hv 0 o rfl e
        rw [e]
        show (a.tmps.setIfInBounds t (vals k)).getD t undef = _
        rw [Nat.add_zero] at this
        rw [← this]
        simp [Array.getD, hs, ht]
      · have hne : (a.put o.dst (vals k)).tmps.getD t undef = a.tmps.getD t undef := by
          cases hd : o.dst with
          | none => rfl
          | some d =>
            have hdt : d ≠ t := fun e2 => e (by rw [hd, e2])
            show (a.tmps.setIfInBounds d (vals k)).getD t undef = _
            rw [Array.getD_eq_getD_getElem?, Array.getD_eq_getD_getElem?, Array.getElem?_setIfInBounds_ne hdt]
        rcases h with ⟨i, o', h1, h2⟩ | h
        · cases i with
          | zero =>
            simp at h1
            subst h1
            exact absurd h2 e
          | succ i => exact .inl ⟨i, o', by rw [List.getElem?_cons_succ] at h1; exact h1, h2⟩
        · exact .inr (hne.trans h)
theorem act_ext {a b : Act} (hs : a.tmps.size = b.tmps.size) (hd : a.defers = b.defers) (h : ∀ t, t < b.tmps.size → a.tmps.getD t undef = b.tmps.getD t undef) : a = b := by
 obtain ⟨x, d⟩ := a
 obtain ⟨y, e⟩ := b
 have : x = y := by
  refine Array.ext hs fun i h1 h2 => ?_
  have := h i h2
  simpa [Array.getD, h1, show i < y.size from h2] using this
 subst this
 simp at hd
 rw [hd]
def slotV (o : Oper) (a : Act) : Value := match o.dst with
 | none => undef
 | some t => a.tmps.getD t undef
theorem dist_of (h : distB ops = true) : ∀ (i j : Nat) (oi oj : Oper) (s : Tmp), ops[i]? = some oi → ops[j]? = some oj → oi.dst = some s → oj.dst = some s → i = j := by
 intro i j oi oj s hi hj di dj
 have h1 := List.all_eq_true.1 h i (List.mem_range.2 (Array.getElem?_eq_some_iff.1 hi).1)
 have h2 := List.all_eq_true.1 h1 j (List.mem_range.2 (Array.getElem?_eq_some_iff.1 hj).1)
 rw [hi, hj] at h2
 simp [di, dj] at h2
 exact h2
theorem dst_of {n : Nat} (h : dstB ops n = true) : ∀ (i : Nat) (o : Oper) (t : Nat), ops[i]? = some o → o.dst = some t → t < n := by
 intro i o t hi hd
 have h1 := List.all_eq_true.1 h i (List.mem_range.2 (Array.getElem?_eq_some_iff.1 hi).1)
 rw [hi] at h1
 simpa [hd] using h1
structure EInv (ops : Array Oper) (a0 : Act) (C : World → Prop) (V : Nat → Value → World → Prop) (l : Array Bool) (a : Act) (w : World) : Prop where
 len : l.size = ops.size
 cls : C w
 size : a.tmps.size = a0.tmps.size
 defers : a.defers = a0.defers
 old : ∀ t, (∀ (i : Nat) (o : Oper), ops[i]? = some o → o.dst ≠ some t) → a.tmps.getD t undef = a0.tmps.getD t undef
 new : ∀ (i : Nat) (o : Oper), ops[i]? = some o → l.getD i false = true → V i (slotV o a) w
theorem einv_step {a0 a : Act} {C : World → Prop} {V : Nat → Value → World → Prop} {l : Array Bool} {w w' : World} {i : Nat} {o : Oper} {v : Value} (hdist : distB ops = true) (hdst : dstB ops a0.tmps.size = true)
  (h : EInv ops a0 C V l a w) (ho : ops[i]? = some o) (hC : C w') (hv : V i (match o.dst with | none => undef | some _ => v) w') (hk : ∀ j u, j ≠ i → V j u w → V j u w') : EInv ops a0 C V (l.setIfInBounds i true) (a.put o.dst v) w' := by
 have hi : i < l.size := by rw [h.len]; exact (Array.getElem?_eq_some_iff.1 ho).1
 refine ⟨by simpa using h.len, hC, (put_size _ _ _).trans h.size, (put_defers _ _ _).trans h.defers, fun s hs => ?_, fun j oj hj hl => ?_⟩
 ·rw [← h.old s hs]
  cases hd : o.dst with
  | none => rfl
  | some t =>
   have hne : t ≠ s := fun e => hs i o ho (by rw [hd, e])
   show (a.tmps.setIfInBounds t v).getD s undef = _
   rw [Array.getD_eq_getD_getElem?, Array.getD_eq_getD_getElem?, Array.getElem?_setIfInBounds_ne hne]
 ·by_cases e : i = j
  ·subst e
   rw [ho] at hj
   cases hj
   have : slotV o (a.put o.dst v) = match o.dst with | none => undef | some _ => v := by
    unfold slotV
    cases hd : o.dst with
    | none => rfl
    | some t =>
     have ht : t < a.tmps.size := by rw [h.size]; exact dst_of hdst i o t ho hd
     show (a.tmps.setIfInBounds t v).getD t undef = v
     simp [Array.getD, ht]
   rw [this]
   exact hv
  ·rw [getD_set_ne e] at hl
   have : slotV oj (a.put o.dst v) = slotV oj a := by
    unfold slotV
    cases hd : o.dst with
    | none => rfl
    | some t =>
     cases hdj : oj.dst with
     | none => rfl
     | some s =>
      have hne : t ≠ s := fun e2 => e (dist_of hdist i j o oj t ho hj hd (by rw [hdj, e2]))
      show (a.tmps.setIfInBounds t v).getD s undef = a.tmps.getD s undef
      rw [Array.getD_eq_getD_getElem?, Array.getD_eq_getD_getElem?, Array.getElem?_setIfInBounds_ne hne]
   rw [this]
   exact hk j _ (Ne.symm e) (h.new j oj hj hl)
def valsOf (ops : Array Oper) (a : Act) (i : Nat) : Value := match ops[i]? with
 | none => undef
 | some o => slotV o a
theorem putAll_of {a0 a : Act} (hs : a.tmps.size = a0.tmps.size) (hd : a.defers = a0.defers) (hold : ∀ t, (∀ (i : Nat) (o : Oper), ops[i]? = some o → o.dst ≠ some t) → a.tmps.getD t undef = a0.tmps.getD t undef) :
  putAll ops.toList 0 (valsOf ops a) a0 = a := by
 obtain ⟨h1, h2⟩ := putAll_size (valsOf ops a) ops.toList 0 a0
 refine act_ext (h1.trans hs.symm) (h2.trans hd.symm) fun t ht => ?_
 refine putAll_at _ a t ht ops.toList 0 a0 hs.symm (fun i o ho hdst => ?_) ?_
 ·rw [Array.getElem?_toList] at ho
  rw [Nat.zero_add]
  unfold valsOf
  rw [ho]
  show slotV o a = _
  unfold slotV
  rw [hdst]
 ·by_cases e : ∃ (i : Nat) (o : Oper), ops.toList[i]? = some o ∧ o.dst = some t
  ·exact .inl e
  ·exact .inr (hold t fun i o ho hdst => e ⟨i, o, by rw [Array.getElem?_toList]; exact ho, hdst⟩).symm
theorem wp_region_gen {id : Nat} {a0 : Act} {w0 : World} (hm : P.follows .mixedOrders = true) (C : World → Prop) (V : Nat → Value → World → Prop) (hb : (backB ops && (distB ops && dstB ops a0.tmps.size)) = true) (h0 : C w0.drew)
  (hstep : ∀ (i : Nat) (o : Oper) (w : World) (vals : Nat → Value), ops[i]? = some o → C w → (∀ j, (o.after.any fun e => Region.binds .any e && e.on == j) = true → V j (vals j) w) →
   wpOp P ops Q i (fun a' w' => ∃ v, a' = (putAll ops.toList 0 vals a0).put o.dst v ∧ V i (match o.dst with | none => undef | some _ => v) w' ∧ C w' ∧ ∀ j u, j ≠ i → V j u w → V j u w') (putAll ops.toList 0 vals a0) w)
  (hQ : ∀ (w : World) (vals : Nat → Value), C w → (∀ j, j < ops.size → V j (vals j) w) → Q .normal (putAll ops.toList 0 vals a0) w) : (Code.region id ops true).wp P Q a0 w0 := by
 rw [Bool.and_eq_true, Bool.and_eq_true] at hb
 obtain ⟨hb1, hb2, hb3⟩ := hb
 have hrep : ∀ i, (Array.replicate ops.size false).getD i false = false := fun i => by
  simp only [Array.getD]
  split <;> simp
 have hval : ∀ (l : Array Bool) (a : Act) (w : World), EInv ops a0 C V l a w → ∀ j, j < ops.size → l.getD j false = true → V j (valsOf ops a j) w := by
  intro l a w h j hj hl
  have := h.new j ops[j] (Array.getElem?_eq_getElem hj) hl
  unfold valsOf
  rw [Array.getElem?_eq_getElem hj]
  exact this
 refine wp_region_inv hm (EInv ops a0 C V) ⟨by simp, h0, rfl, rfl, fun _ _ => rfl, fun i o _ hl => by rw [hrep] at hl; cases hl⟩ (fun l a w h hr => ?_) ?_
 ·have hall := all_listed hb1 h.len hr
  have := hQ w (valsOf ops a) h.cls (fun j hj => hval l a w h j hj (hall j hj))
  rw [putAll_of h.size h.defers h.old] at this
  exact this
 ·intro l a w i h hi
  obtain ⟨hun, o, ho, hr⟩ := mem_ready.1 hi
  have hs := hstep i o w (valsOf ops a) ho h.cls (fun j hj => ?_)
  ·rw [putAll_of h.size h.defers h.old] at hs
   refine wpOp_mono ?_ hs
   rintro a' w' ⟨v, rfl, h1, h2, h3⟩
   exact einv_step hb2 hb3 h ho h2 h1 h3
  ·obtain ⟨e, he, h2⟩ := Array.any_eq_true'.1 hj
   rw [Bool.and_eq_true, beq_iff_eq] at h2
   have h3 := hr e he h2.1
   have hj2 : e.on < ops.size := by
    have h4 := List.all_eq_true.1 hb1 i (List.mem_range.2 (Array.getElem?_eq_some_iff.1 ho).1)
    rw [ho] at h4
    have h5 := of_decide_eq_true (Array.all_eq_true'.1 h4 e he)
    have := (Array.getElem?_eq_some_iff.1 ho).1
    omega
   have := hval l a w h e.on hj2 h3
   rw [← h2.2]
   exact this
theorem wp_region_each {id : Nat} {a0 : Act} {w0 : World} (hm : P.follows .mixedOrders = true) (V : Nat → Value → World → Prop) (hb : (backB ops && (distB ops && dstB ops a0.tmps.size)) = true)
  (hV : ∀ i v w w', V i v w → Below w.heap.size w w' → V i v w')
  (hstep : ∀ (i : Nat) (o : Oper) (w : World) (vals : Nat → Value), ops[i]? = some o → Below w0.heap.size w0 w → (∀ j, (o.after.any fun e => Region.binds .any e && e.on == j) = true → V j (vals j) w) →
   wpOp P ops Q i (fun a' w' => ∃ v, a' = (putAll ops.toList 0 vals a0).put o.dst v ∧ V i (match o.dst with | none => undef | some _ => v) w' ∧ Below w.heap.size w w') (putAll ops.toList 0 vals a0) w)
  (hQ : ∀ (w : World) (vals : Nat → Value), Below w0.heap.size w0 w → (∀ j, j < ops.size → V j (vals j) w) → Q .normal (putAll ops.toList 0 vals a0) w) : (Code.region id ops true).wp P Q a0 w0 :=
 wp_region_gen hm (fun w => Below w0.heap.size w0 w) V hb (Below.refl _ _).drew (fun i o w vals ho hC hd => wpOp_mono (fun a' w' ⟨v, e, h1, h2⟩ => ⟨v, e, h1, hC.trans (h2.mono hC.size), fun j u _ hu => hV j u w w' hu h2⟩) (hstep i o w vals ho hC hd)) hQ
inductive Told where
 | is (v : Value)
 | such (p : Value → World → Prop) (h : ∀ v w w', p v w → Below w.heap.size w w' → p v w')
def Told.holds : Told → Value → World → Prop
 | .is v, u, _ => u = v
 | .such p _, u, w => p u w
def toldAt (Vs : List Told) (i : Nat) : Value → World → Prop := match Vs[i]? with
 | none => fun _ _ => True
 | some t => t.holds
theorem toldAt_kept (Vs : List Told) (i : Nat) (v : Value) (w w' : World) (h : toldAt Vs i v w) (hb : Below w.heap.size w w') : toldAt Vs i v w' := by
 unfold toldAt at *
 cases hi : Vs[i]? with
 | none => trivial
 | some t =>
  rw [hi] at h
  cases t with
  | is x => exact h
  | such p hp => exact hp _ _ _ h hb
def gwp (P : Program) (Q : Exit → Act → World → Prop) (o : Oper) (vals : Nat → Value) (a : Act) (w : World) (K : Act → World → Prop) : Prop := match o.guard with
 | none => o.wp P a w K Q
 | some (j, want) => (vals j = .bool want ∧ o.wp P a w K Q) ∨ (vals j = .bool (!want) ∧ K (a.put o.dst undef) w)
theorem gwp_none {o : Oper} {vals : Nat → Value} {a : Act} {w : World} {K : Act → World → Prop} (hg : o.guard = none) (h : o.wp P a w K Q) : gwp P Q o vals a w K := by
 unfold gwp
 rw [hg]
 exact h
theorem gwp_some {o : Oper} {vals : Nat → Value} {a : Act} {w : World} {K : Act → World → Prop} {j : Nat} {want : Bool} (hg : o.guard = some (j, want)) (hv : vals j = .bool want) (h : o.wp P a w K Q) : gwp P Q o vals a w K := by
 unfold gwp
 rw [hg]
 exact .inl ⟨hv, h⟩
theorem gwp_skip {o : Oper} {vals : Nat → Value} {a : Act} {w : World} {K : Act → World → Prop} {j : Nat} {want : Bool} (hg : o.guard = some (j, want)) (hv : vals j = .bool (!want)) (h : K (a.put o.dst undef) w) : gwp P Q o vals a w K := by
 unfold gwp
 rw [hg]
 exact .inr ⟨hv, h⟩
def StepsAt (P : Program) (Q : Exit → Act → World → Prop) (all : List Oper) (a0 : Act) (w0 : World) (Vs : List Told) : Nat → List Oper → Prop
  | _, [] => True
  | i, o :: r => (∀ (w : World) (vals : Nat → Value), Below w0.heap.size w0 w → (∀ j, (o.after.toList.any fun e => Region.binds .any e && e.on == j) = true → toldAt Vs j (vals j) w) →
      ∀ K : Act → World → Prop, (∀ v w', toldAt Vs i (match o.dst with | none => undef | some _ => v) w' → Below w.heap.size w w' → K ((putAll all 0 vals a0).put o.dst v) w') → gwp P Q o vals (putAll all 0 vals a0) w K) ∧ StepsAt P Q all a0 w0 Vs (i + 1) r
theorem stepsAt_get {all : List Oper} {a0 : Act} {w0 : World} {Vs : List Told} : ∀ {l : List Oper} {k i : Nat} {o : Oper}, StepsAt P Q all a0 w0 Vs k l → l[i]? = some o →
  ∀ (w : World) (vals : Nat → Value), Below w0.heap.size w0 w → (∀ j, (o.after.toList.any fun e => Region.binds .any e && e.on == j) = true → toldAt Vs j (vals j) w) →
   ∀ K : Act → World → Prop, (∀ v w', toldAt Vs (k + i) (match o.dst with | none => undef | some _ => v) w' → Below w.heap.size w w' → K ((putAll all 0 vals a0).put o.dst v) w') → gwp P Q o vals (putAll all 0 vals a0) w K
 | [], _, _, _, _, h => by simp at h
 | x :: r, k, 0, o, hs, h => by
  simp at h
  subst h
  exact hs.1
 | x :: r, k, i + 1, o, hs, h => by
  rw [List.getElem?_cons_succ] at h
  have := stepsAt_get hs.2 h
  rw [show k + (i + 1) = k + 1 + i by omega]
  exact this
theorem putAll_other (vals : Nat → Value) (t : Nat) : ∀ (l : List Oper) (k : Nat) (a : Act), (∀ (i : Nat) (o : Oper), l[i]? = some o → o.dst ≠ some t) → (putAll l k vals a).tmps[t]? = a.tmps[t]?
 | [], _, _, _ => rfl
 | o :: r, k, a, h => by
  refine (putAll_other vals t r (k + 1) (a.put o.dst (vals k)) fun i o' ho => h (i + 1) o' (by rw [List.getElem?_cons_succ]; exact ho)).trans ?_
  cases hd : o.dst with
  | none => rfl
  | some d =>
   have hne : d ≠ t := fun e => h 0 o rfl (by rw [hd, e])
   show (a.tmps.setIfInBounds d (vals k))[t]? = _
   rw [Array.getElem?_setIfInBounds_ne hne]
theorem putAll_slot (vals : Nat → Value) (t : Nat) : ∀ (l : List Oper) (k i : Nat) (o : Oper) (a : Act), l[i]? = some o → o.dst = some t → t < a.tmps.size → (∀ (j : Nat) (o' : Oper), i < j → l[j]? = some o' → o'.dst ≠ some t) → (putAll l k vals a).tmps[t]? = some (vals (k + i))
 | [], _, _, _, _, h, _, _, _ => by simp at h
 | x :: r, k, 0, o, a, h, hd, ht, hn => by
  simp at h
  subst h
  refine (putAll_other vals t r (k + 1) (a.put x.dst (vals k)) fun i o' ho => hn (i + 1) o' (by omega) (by rw [List.getElem?_cons_succ]; exact ho)).trans ?_
  rw [hd]
  show (a.tmps.setIfInBounds t (vals k))[t]? = _
  simp [ht]
 | x :: r, k, i + 1, o, a, h, hd, ht, hn => by
  rw [List.getElem?_cons_succ] at h
  rw [show k + (i + 1) = k + 1 + i by omega]
  exact putAll_slot vals t r (k + 1) i o (a.put x.dst (vals k)) h hd (by rw [put_size]; exact ht) fun j o' hj ho => hn (j + 1) o' (by omega) (by rw [List.getElem?_cons_succ]; exact ho)
def guardB (l : List Oper) : Bool := l.all fun o => match o.guard with
 | none => true
 | some (j, _) => match l[j]? with
  | none => false
  | some oj => oj.dst.isSome
theorem yielded_put {l : List Oper} {a0 : Act} {vals : Nat → Value} {j : Nat} {oj : Oper} (h1 : distB l.toArray = true) (h2 : dstB l.toArray a0.tmps.size = true) (hj : l[j]? = some oj) (hd : oj.dst.isSome = true) {b : Bool} (hv : vals j = .bool b) :
  yielded l.toArray (putAll l 0 vals a0).tmps j = some b := by
 cases hdj : oj.dst with
 | none => rw [hdj] at hd; cases hd
 | some t =>
  have hja : l.toArray[j]? = some oj := by simpa using hj
  have ht := dst_of h2 j oj t hja hdj
  have := putAll_slot vals t l 0 j oj a0 hj hdj ht fun i o' hij ho e => by
   have hi : l.toArray[i]? = some o' := by simpa using ho
   have := dist_of h1 j i oj o' t hja hi hdj e
   omega
  unfold yielded
  rw [hja]
  simp only [Option.bind_some, hdj, this, Nat.zero_add, hv]
theorem wpOp_of_gwp {l : List Oper} {a0 : Act} {vals : Nat → Value} {i : Nat} {o : Oper} {w : World} {K : Act → World → Prop} (h1 : distB l.toArray = true) (h2 : dstB l.toArray a0.tmps.size = true) (hol : l[i]? = some o) (hgb : guardB l = true)
  (hs : gwp P Q o vals (putAll l 0 vals a0) w K) : wpOp P l.toArray Q i K (putAll l 0 vals a0) w := by
 have hg := List.all_eq_true.1 hgb o (List.mem_of_getElem? hol)
 have ho : l.toArray[i]? = some o := by simpa using hol
 unfold wpOp
 rw [ho]
 unfold gwp at hs
 obtain ⟨dst, op, ty, pos, after, guard⟩ := o
 simp only [Region.wanted]
 cases guard with
 | none => exact .inl hs
 | some g =>
  obtain ⟨j, want⟩ := g
  simp only at hs hg
  cases hj : l[j]? with
  | none => rw [hj] at hg; cases hg
  | some oj =>
   rw [hj] at hg
   rcases hs with ⟨hv, hs⟩ | ⟨hv, hs⟩
   ·have := yielded_put h1 h2 hj hg hv
    simp only [this, beq_self_eq_true, if_true]
    exact .inl hs
   ·have := yielded_put h1 h2 hj hg hv
    have hne : (some (!want) == some want) = false := by cases want <;> rfl
    simp only [this, hne, Bool.false_eq_true, if_false]
    exact hs
theorem wp_region_told {id : Nat} {a0 : Act} {w0 : World} {l : List Oper} (Vs : List Told) (hm : P.follows .mixedOrders = true) (hb : ((backB l.toArray && (distB l.toArray && dstB l.toArray a0.tmps.size)) && guardB l) = true)
  (hstep : StepsAt P Q l a0 w0 Vs 0 l)
  (hQ : ∀ (w : World) (vals : Nat → Value), Below w0.heap.size w0 w → (∀ j, j < l.length → toldAt Vs j (vals j) w) → Q .normal (putAll l 0 vals a0) w) : (Code.region id l.toArray true).wp P Q a0 w0 := by
 rw [Bool.and_eq_true] at hb
 have hb' := hb.1
 rw [Bool.and_eq_true, Bool.and_eq_true] at hb'
 refine wp_region_each (ops := l.toArray) hm (toldAt Vs) hb.1 (toldAt_kept Vs) (fun i o w vals ho hC hd => ?_) (fun w vals hC h => hQ w vals hC fun j hj => h j (by simpa using hj))
 have hol : l[i]? = some o := by simpa using ho
 refine wpOp_of_gwp hb'.2.1 hb'.2.2 hol hb.2 ?_
 exact stepsAt_get hstep hol w vals hC (fun j hj => hd j (by rw [← Array.any_toList]; exact hj)) _ fun v w' h1 h2 => ⟨v, rfl, by rw [Nat.zero_add] at h1; exact h1, h2⟩
theorem told_at {Vs : List Told} {i : Nat} {v : Value} {w : World} {t : Told} (h : toldAt Vs i v w) (ht : Vs[i]? = some t) : t.holds v w := by
 unfold toldAt at h
 rw [ht] at h
 exact h
end Go.Proofs.YthcabnfcgjnlnaaGreatDoor
namespace Go.Proofs.YthcabnfcgjnlnaaGreatDoor
open Go.RowKit Ru Lay
attribute [local go_sem ↓] Go.wp_at_zero Go.wp_at_succ
set_option maxHeartbeats 4000000 in
set_option maxRecDepth 100000 in
theorem ordN_any (a b : Nt) (w : World) : Calls Tryz.prog 91 #[noteV a, noteV b] w fun e w' => e = .returned (.int .i64 (ordN a b)) ∧ Below w.heap.size w w' := by
 unfold noteV
 go_enter Tryz.func91, Tryz.ntmps91
 go_wp2_with fail
 have HBW : Hid (Below w.heap.size w ((w.alloc (.cells #[.int .i64 a.nid, .int .i64 a.tier, .int .i64 a.parent, .int .i64 a.at1, .int .i64 a.at2, .int .i64 a.rank, .string a.text] 58)).alloc (.cells #[.int .i64 b.nid, .int .i64 b.tier, .int .i64 b.parent, .int .i64 b.at1, .int .i64 b.at2, .int .i64 b.rank, .string b.text] 58))) := ((Below.refl _ w).alloc (Nat.le_refl _) _).alloc (by simp) _
 obtain ⟨W0, hW0⟩ : ∃ W0, ((w.alloc (.cells #[.int .i64 a.nid, .int .i64 a.tier, .int .i64 a.parent, .int .i64 a.at1, .int .i64 a.at2, .int .i64 a.rank, .string a.text] 58)).alloc (.cells #[.int .i64 b.nid, .int .i64 b.tier, .int .i64 b.parent, .int .i64 b.at1, .int .i64 b.at2, .int .i64 b.rank, .string b.text] 58)) = W0 := ⟨_, rfl⟩
 have hz0 : W0.heap.size = w.heap.size + 1 + 1 := by rw [← hW0]; simp
 have Haparent : Hid (∀ W, Below W0.heap.size W0 W → W.cell? ⟨w.heap.size, 2, none⟩ = some (.int .i64 a.parent)) := fun W hW => by
  rw [hW.cell (p := ⟨w.heap.size, 2, none⟩) (by show w.heap.size < _; omega)]
  rw [← hW0, World.cell?_alloc_lt _ _ _ (by simp), World.cell?_alloc_at _ _ _ _ rfl]; rfl
 have Haat1 : Hid (∀ W, Below W0.heap.size W0 W → W.cell? ⟨w.heap.size, 3, none⟩ = some (.int .i64 a.at1)) := fun W hW => by
  rw [hW.cell (p := ⟨w.heap.size, 3, none⟩) (by show w.heap.size < _; omega)]
  rw [← hW0, World.cell?_alloc_lt _ _ _ (by simp), World.cell?_alloc_at _ _ _ _ rfl]; rfl
 have Harank : Hid (∀ W, Below W0.heap.size W0 W → W.cell? ⟨w.heap.size, 5, none⟩ = some (.int .i64 a.rank)) := fun W hW => by
  rw [hW.cell (p := ⟨w.heap.size, 5, none⟩) (by show w.heap.size < _; omega)]
  rw [← hW0, World.cell?_alloc_lt _ _ _ (by simp), World.cell?_alloc_at _ _ _ _ rfl]; rfl
 have Hbparent : Hid (∀ W, Below W0.heap.size W0 W → W.cell? ⟨w.heap.size + 1, 2, none⟩ = some (.int .i64 b.parent)) := fun W hW => by
  rw [hW.cell (p := ⟨w.heap.size + 1, 2, none⟩) (by show w.heap.size + 1 < _; omega)]
  rw [← hW0, World.cell?_alloc_at _ _ _ _ (by simp)]; rfl
 have Hbat1 : Hid (∀ W, Below W0.heap.size W0 W → W.cell? ⟨w.heap.size + 1, 3, none⟩ = some (.int .i64 b.at1)) := fun W hW => by
  rw [hW.cell (p := ⟨w.heap.size + 1, 3, none⟩) (by show w.heap.size + 1 < _; omega)]
  rw [← hW0, World.cell?_alloc_at _ _ _ _ (by simp)]; rfl
 have Hbrank : Hid (∀ W, Below W0.heap.size W0 W → W.cell? ⟨w.heap.size + 1, 5, none⟩ = some (.int .i64 b.rank)) := fun W hW => by
  rw [hW.cell (p := ⟨w.heap.size + 1, 5, none⟩) (by show w.heap.size + 1 < _; omega)]
  rw [← hW0, World.cell?_alloc_at _ _ _ _ (by simp)]; rfl
 rw [hW0] at HBW ⊢
 clear hW0
 refine wp_region_told [Told.is (.pointer (some ⟨w.heap.size, 2, none⟩)), Told.is (.int .i64 a.parent), Told.is (.pointer (some ⟨w.heap.size + 1, 2, none⟩)), Told.is (.int .i64 b.parent), Told.is (.int .i64 (Lib.compareInt a.parent b.parent)), Told.is (.pointer (some ⟨w.heap.size, 3, none⟩)), Told.is (.pointer (some ⟨w.heap.size, 3, none⟩)), Told.is (.int .i64 a.at1), Told.is (.pointer (some ⟨w.heap.size + 1, 3, none⟩)), Told.is (.pointer (some ⟨w.heap.size + 1, 3, none⟩)), Told.is (.int .i64 b.at1), Told.is (.int .i64 (Lib.compareInt a.at1 b.at1)), Told.is (.pointer (some ⟨w.heap.size, 5, none⟩)), Told.is (.int .i64 a.rank), Told.is (.pointer (some ⟨w.heap.size + 1, 5, none⟩)), Told.is (.int .i64 b.rank), Told.is (.int .i64 (Lib.compareInt a.rank b.rank)), Told.such (fun v w => ∃ A c, v = .slice A 3 c ∧ IR w w.heap.size A 3 [Lib.compareInt a.parent b.parent, Lib.compareInt a.at1 b.at1, Lib.compareInt a.rank b.rank]) (fun v w w' ⟨A, c, h1, h2⟩ hb => ⟨A, c, h1, IR.on h2 hb⟩), Told.is (.int .i64 (ordN a b)), Told.is (.int .i64 (ordN a b))] (by kernel_rfl) (by kernel_rfl) ?_ ?_
 ·refine And.intro (fun w1 vals hB hd K hK => ?_) ?_
  ·clear hd
   simp only [putAll, Act.put, pS] at hK ⊢
   refine gwp_none rfl ?_
   go_simp
   exact hK _ _ rfl (Below.refl _ _)
  refine And.intro (fun w1 vals hB hd K hK => ?_) ?_
  ·have e0 : vals 0 = .pointer (some ⟨w.heap.size, 2, none⟩) := told_at (hd 0 rfl) rfl
   clear hd
   simp only [putAll, Act.put, pS] at hK ⊢
   simp only [e0] at hK ⊢
   clear e0
   refine gwp_none rfl ?_
   have hc := Haparent.out w1 hB
   go_simp
   exact hK _ _ rfl (Below.refl _ _)
  refine And.intro (fun w1 vals hB hd K hK => ?_) ?_
  ·clear hd
   simp only [putAll, Act.put, pS] at hK ⊢
   refine gwp_none rfl ?_
   go_simp
   exact hK _ _ rfl (Below.refl _ _)
  refine And.intro (fun w1 vals hB hd K hK => ?_) ?_
  ·have e2 : vals 2 = .pointer (some ⟨w.heap.size + 1, 2, none⟩) := told_at (hd 2 rfl) rfl
   clear hd
   simp only [putAll, Act.put, pS] at hK ⊢
   simp only [e2] at hK ⊢
   clear e2
   refine gwp_none rfl ?_
   have hc := Hbparent.out w1 hB
   go_simp
   exact hK _ _ rfl (Below.refl _ _)
  refine And.intro (fun w1 vals hB hd K hK => ?_) ?_
  ·have e1 : vals 1 = .int .i64 a.parent := told_at (hd 1 rfl) rfl
   have e3 : vals 3 = .int .i64 b.parent := told_at (hd 3 rfl) rfl
   clear hd
   simp only [putAll, Act.put, pS] at hK ⊢
   simp only [e1, e3] at hK ⊢
   clear e1 e3
   refine gwp_none rfl ?_
   go_simp
   refine (Tryz.cmp_Compare_int a.parent b.parent w1).mono ?_
   rintro e w2 ⟨rfl, rfl⟩
   exact hK _ _ rfl (Below.refl _ _)
  refine And.intro (fun w1 vals hB hd K hK => ?_) ?_
  ·clear hd
   simp only [putAll, Act.put, pS] at hK ⊢
   refine gwp_none rfl ?_
   go_simp
   exact hK _ _ rfl (Below.refl _ _)
  refine And.intro (fun w1 vals hB hd K hK => ?_) ?_
  ·have e5 : vals 5 = .pointer (some ⟨w.heap.size, 3, none⟩) := told_at (hd 5 rfl) rfl
   clear hd
   simp only [putAll, Act.put, pS] at hK ⊢
   simp only [e5] at hK ⊢
   clear e5
   refine gwp_none rfl ?_
   go_simp
   exact hK _ _ rfl (Below.refl _ _)
  refine And.intro (fun w1 vals hB hd K hK => ?_) ?_
  ·have e6 : vals 6 = .pointer (some ⟨w.heap.size, 3, none⟩) := told_at (hd 6 rfl) rfl
   clear hd
   simp only [putAll, Act.put, pS] at hK ⊢
   simp only [e6] at hK ⊢
   clear e6
   refine gwp_none rfl ?_
   have hc := Haat1.out w1 hB
   go_simp
   exact hK _ _ rfl (Below.refl _ _)
  refine And.intro (fun w1 vals hB hd K hK => ?_) ?_
  ·clear hd
   simp only [putAll, Act.put, pS] at hK ⊢
   refine gwp_none rfl ?_
   go_simp
   exact hK _ _ rfl (Below.refl _ _)
  refine And.intro (fun w1 vals hB hd K hK => ?_) ?_
  ·have e8 : vals 8 = .pointer (some ⟨w.heap.size + 1, 3, none⟩) := told_at (hd 8 rfl) rfl
   clear hd
   simp only [putAll, Act.put, pS] at hK ⊢
   simp only [e8] at hK ⊢
   clear e8
   refine gwp_none rfl ?_
   go_simp
   exact hK _ _ rfl (Below.refl _ _)
  refine And.intro (fun w1 vals hB hd K hK => ?_) ?_
  ·have e9 : vals 9 = .pointer (some ⟨w.heap.size + 1, 3, none⟩) := told_at (hd 9 rfl) rfl
   clear hd
   simp only [putAll, Act.put, pS] at hK ⊢
   simp only [e9] at hK ⊢
   clear e9
   refine gwp_none rfl ?_
   have hc := Hbat1.out w1 hB
   go_simp
   exact hK _ _ rfl (Below.refl _ _)
  refine And.intro (fun w1 vals hB hd K hK => ?_) ?_
  ·have e7 : vals 7 = .int .i64 a.at1 := told_at (hd 7 rfl) rfl
   have e10 : vals 10 = .int .i64 b.at1 := told_at (hd 10 rfl) rfl
   clear hd
   simp only [putAll, Act.put, pS] at hK ⊢
   simp only [e7, e10] at hK ⊢
   clear e7 e10
   refine gwp_none rfl ?_
   go_simp
   refine (Tryz.cmp_Compare_int a.at1 b.at1 w1).mono ?_
   rintro e w2 ⟨rfl, rfl⟩
   exact hK _ _ rfl (Below.refl _ _)
  refine And.intro (fun w1 vals hB hd K hK => ?_) ?_
  ·clear hd
   simp only [putAll, Act.put, pS] at hK ⊢
   refine gwp_none rfl ?_
   go_simp
   exact hK _ _ rfl (Below.refl _ _)
  refine And.intro (fun w1 vals hB hd K hK => ?_) ?_
  ·have e12 : vals 12 = .pointer (some ⟨w.heap.size, 5, none⟩) := told_at (hd 12 rfl) rfl
   clear hd
   simp only [putAll, Act.put, pS] at hK ⊢
   simp only [e12] at hK ⊢
   clear e12
   refine gwp_none rfl ?_
   have hc := Harank.out w1 hB
   go_simp
   exact hK _ _ rfl (Below.refl _ _)
  refine And.intro (fun w1 vals hB hd K hK => ?_) ?_
  ·clear hd
   simp only [putAll, Act.put, pS] at hK ⊢
   refine gwp_none rfl ?_
   go_simp
   exact hK _ _ rfl (Below.refl _ _)
  refine And.intro (fun w1 vals hB hd K hK => ?_) ?_
  ·have e14 : vals 14 = .pointer (some ⟨w.heap.size + 1, 5, none⟩) := told_at (hd 14 rfl) rfl
   clear hd
   simp only [putAll, Act.put, pS] at hK ⊢
   simp only [e14] at hK ⊢
   clear e14
   refine gwp_none rfl ?_
   have hc := Hbrank.out w1 hB
   go_simp
   exact hK _ _ rfl (Below.refl _ _)
  refine And.intro (fun w1 vals hB hd K hK => ?_) ?_
  ·have e13 : vals 13 = .int .i64 a.rank := told_at (hd 13 rfl) rfl
   have e15 : vals 15 = .int .i64 b.rank := told_at (hd 15 rfl) rfl
   clear hd
   simp only [putAll, Act.put, pS] at hK ⊢
   simp only [e13, e15] at hK ⊢
   clear e13 e15
   refine gwp_none rfl ?_
   go_simp
   refine (Tryz.cmp_Compare_int a.rank b.rank w1).mono ?_
   rintro e w2 ⟨rfl, rfl⟩
   exact hK _ _ rfl (Below.refl _ _)
  refine And.intro (fun w1 vals hB hd K hK => ?_) ?_
  ·have e4 : vals 4 = .int .i64 (Lib.compareInt a.parent b.parent) := told_at (hd 4 rfl) rfl
   have e11 : vals 11 = .int .i64 (Lib.compareInt a.at1 b.at1) := told_at (hd 11 rfl) rfl
   have e16 : vals 16 = .int .i64 (Lib.compareInt a.rank b.rank) := told_at (hd 16 rfl) rfl
   clear hd
   simp only [putAll, Act.put, pS] at hK ⊢
   simp only [e4, e11, e16] at hK ⊢
   clear e4 e11 e16
   refine gwp_none rfl ?_
   go_simp
   exact hK _ _ ⟨_, _, rfl, ir_new w1 3 [Lib.compareInt a.parent b.parent, Lib.compareInt a.at1 b.at1, Lib.compareInt a.rank b.rank] _ rfl _ rfl⟩ (below_new _ _)
  refine And.intro (fun w1 vals hB hd K hK => ?_) ?_
  ·have p17 := told_at (t := Told.such (fun v w => ∃ A c, v = .slice A 3 c ∧ IR w w.heap.size A 3 [Lib.compareInt a.parent b.parent, Lib.compareInt a.at1 b.at1, Lib.compareInt a.rank b.rank]) (fun v w w' ⟨A, c, h1, h2⟩ hb => ⟨A, c, h1, IR.on h2 hb⟩)) (hd 17 rfl) rfl
   simp only [Told.holds] at p17
   clear hd
   obtain ⟨x17, hx17⟩ : ∃ x, vals 17 = x := ⟨_, rfl⟩
   rw [hx17] at p17
   simp only [putAll, Act.put, pS] at hK ⊢
   simp only [hx17] at hK ⊢
   clear hx17
   refine gwp_none rfl ?_
   obtain ⟨A, c, rfl, hir⟩ := p17
   go_simp
   refine (cmpOr_any A 3 c [Lib.compareInt a.parent b.parent, Lib.compareInt a.at1 b.at1, Lib.compareInt a.rank b.rank] w1 hir (by omega)).mono ?_
   rintro e w2 ⟨rfl, rfl⟩
   exact hK _ _ rfl (Below.refl _ _)
  refine And.intro (fun w1 vals hB hd K hK => ?_) ?_
  ·have e18 : vals 18 = .int .i64 (ordN a b) := told_at (hd 18 rfl) rfl
   clear hd
   simp only [putAll, Act.put, pS] at hK ⊢
   simp only [e18] at hK ⊢
   clear e18
   refine gwp_none rfl ?_
   go_simp
   exact hK _ _ rfl (Below.refl _ _)
  exact trivial
 ·intro w1 vals hB hd
  have e19 : vals 19 = .int .i64 (ordN a b) := told_at (hd 19 (by decide)) rfl
  clear hd
  simp only [putAll, Act.put, pS]
  simp only [e19]
  clear e19
  go_wp2
  go_ret
  exact ⟨rfl, HBW.out.trans (hB.mono HBW.out.size)⟩
end Go.Proofs.YthcabnfcgjnlnaaGreatDoor
namespace Go.Proofs.YthcabnfcgjnlnaaGreatDoor
open Go.RowKit
structure SK {α : Type} (enc : α → List Value) (s : Nat) (w0 : World) (blk off n : Nat) (d : Nat → α) (W : World) : Prop where
 os : W.os = w0.os
 tape : W.tape = w0.tape
 output : W.output = w0.output
 size : w0.heap.size ≤ W.heap.size
 block : ∀ k, k < w0.heap.size → k ≠ blk → W.heap[k]? = w0.heap[k]?
 lt : blk < w0.heap.size
 cells : ∀ j, j < n → W.rangeAt blk (off + j * s) (enc (d j))
 there : W.there blk off (n * s)
 obj : ∃ c c' e fr, w0.heap[blk]? = some (.cells c e fr) ∧ W.heap[blk]? = some (.cells c' e fr) ∧ c'.size = c.size ∧ ∀ k, (k < off ∨ off + n * s ≤ k) → c'[k]? = c[k]?
theorem heap_setCells_self (b : Nat) : ∀ (vs : List Value) (o : Nat) (w : World) (c : Array Value) (e : TypeId) (fr : Nat × Nat), w.heap[b]? = some (.cells c e fr) →
  ∃ c', (w.setCells b o vs).heap[b]? = some (.cells c' e fr) ∧ c'.size = c.size ∧ ∀ k, (k < o ∨ o + vs.length ≤ k) → c'[k]? = c[k]?
 | [], o, w, c, e, fr, h => ⟨c, h, rfl, fun _ _ => rfl⟩
 | v :: r, o, w, c, e, fr, h => by
  have h1 : (w.setCell ⟨b, o, none⟩ v).heap[b]? = some (.cells (c.setIfInBounds o v) e fr) := by simp [World.setCell, Array.getElem?_modify, h]
  obtain ⟨c', h2, h3, h4⟩ := heap_setCells_self b r (o + 1) (w.setCell ⟨b, o, none⟩ v) _ e fr h1
  refine ⟨c', h2, by rw [h3]; simp, fun k hk => ?_⟩
  rw [h4 k (by simp at hk; omega), Array.getElem?_setIfInBounds, if_neg (by simp at hk; omega)]
theorem size_setCells (b : Nat) : ∀ (vs : List Value) (o : Nat) (w : World), (w.setCells b o vs).heap.size = w.heap.size
 | [], _, _ => rfl
 | v :: r, o, w => by
  show ((w.setCell ⟨b, o, none⟩ v).setCells b (o + 1) r).heap.size = _
  rw [size_setCells b r (o + 1)]
  simp
theorem tape_setCells (b : Nat) : ∀ (vs : List Value) (o : Nat) (w : World), (w.setCells b o vs).tape = w.tape
 | [], _, _ => rfl
 | v :: r, o, w => by
  show ((w.setCell ⟨b, o, none⟩ v).setCells b (o + 1) r).tape = _
  rw [tape_setCells b r (o + 1)]
  rfl
section
variable {α : Type} {enc : α → List Value} {s : Nat} {w0 W W' : World} {blk off n : Nat} {d : Nat → α}
theorem SK.below (h : SK enc s w0 blk off n d W) (hb : Below W.heap.size W W') : SK enc s w0 blk off n d W' := by
 have hlt : blk < W.heap.size := Nat.lt_of_lt_of_le h.lt h.size
 refine ⟨hb.os.trans h.os, hb.tape.trans h.tape, hb.output.trans h.output, Nat.le_trans h.size hb.size, fun k hk hn => (hb.block k (Nat.lt_of_lt_of_le hk h.size)).trans (h.block k hk hn), h.lt,
  fun j hj i v hv => (hb.cell (p := ⟨blk, off + j * s + i, none⟩) hlt).trans (h.cells j hj i v hv), fun j hj => ?_, ?_⟩
 ·obtain ⟨h1, h2⟩ := h.there j hj
  exact ⟨by rw [hb.cell (p := ⟨blk, off + j, none⟩) hlt]; exact h1, (hb.frozen (p := ⟨blk, off + j, none⟩) hlt).trans h2⟩
 ·obtain ⟨c, c', e, fr, h1, h2, h3, h4⟩ := h.obj
  exact ⟨c, c', e, fr, h1, (hb.block blk hlt).trans h2, h3, h4⟩
theorem SK.drewN (h : SK enc s w0 blk off n d W) (k : Nat) : SK enc s w0 blk off n d (W.drewN k) := h.below (below_drewN (Below.refl _ _) k)
theorem SK.drew (h : SK enc s w0 blk off n d W) : SK enc s w0 blk off n d W.drew := h.drewN 1
theorem SK.room (h : SK enc s w0 blk off n d W) {j : Nat} (hj : j < n) : W.there blk (off + j * s) s := fun i hi => by
 have h1 : j * s + i < n * s := by
  have : (j + 1) * s ≤ n * s := Nat.mul_le_mul_right s hj
  rw [Nat.add_mul] at this
  omega
 have := h.there (j * s + i) h1
 rw [show off + (j * s + i) = off + j * s + i by omega] at this
 exact this
theorem SK.store (hl : ∀ x, (enc x).length = s) (h : SK enc s w0 blk off n d W) {i : Nat} (hi : i < n) (x : α) : SK enc s w0 blk off n (upd d i x) (W.setCells blk (off + i * s) (enc x)) := by
 obtain ⟨c, c', e, fr, h1, h2, h3, h4⟩ := h.obj
 obtain ⟨c2, g1, g2, g3⟩ := heap_setCells_self blk (enc x) (off + i * s) W c' e fr h2
 have hend : i * s + s ≤ n * s := by
  have : (i + 1) * s ≤ n * s := Nat.mul_le_mul_right s hi
  rw [Nat.add_mul] at this
  omega
 refine ⟨(World.os_setCells _ _ _ _).trans h.os, (tape_setCells _ _ _ _).trans h.tape, (World.output_setCells _ _ _ _).trans h.output, by rw [size_setCells]; exact h.size, fun k hk hn => ?_, h.lt, fun j hj => ?_, World.there_setCells h.there _ _ _, c, c2, e, fr, h1, g1, by rw [g2]; exact h3, fun k hk => ?_⟩
 ·rw [World.heap_setCells_other _ _ _ _ (Nat.lt_of_lt_of_le hk h.size) hn]
  exact h.block k hk hn
 ·by_cases e2 : j = i
  ·subst e2
   have : upd d j x j = x := by simp [upd]
   rw [this]
   exact World.rangeAt_setCells_same _ _ _ _ (by rw [hl]; exact h.room hj)
  ·have : upd d i x j = d j := by simp [upd, e2]
   rw [this]
   refine World.rangeAt_setCells_apart (h.cells j hj) _ _ _ (.inr ?_)
   rw [hl, hl]
   rcases Nat.lt_or_gt_of_ne e2 with h5 | h5
   ·have : (j + 1) * s ≤ i * s := Nat.mul_le_mul_right s h5
    rw [Nat.add_mul] at this
    omega
   ·have : (i + 1) * s ≤ j * s := Nat.mul_le_mul_right s h5
    rw [Nat.add_mul] at this
    omega
 ·rw [g3 k (by rw [hl]; omega)]
  exact h4 k hk
theorem SK.swapped (hl : ∀ x, (enc x).length = s) (h : SK enc s w0 blk off n d W) {i j : Nat} (hi : i < n) (hj : j < n) :
  SK enc s w0 blk off n (swpF d i j) ((W.setCells blk (off + i * s) (enc (d j))).setCells blk (off + j * s) (enc (d i))) := (h.store hl hi (d j)).store hl hj (d i)
theorem SK.congr (h : SK enc s w0 blk off n d W) {d' : Nat → α} (hd : ∀ j, j < n → d' j = d j) : SK enc s w0 blk off n d' W :=
 ⟨h.os, h.tape, h.output, h.size, h.block, h.lt, fun j hj => by rw [hd j hj]; exact h.cells j hj, h.there, h.obj⟩
theorem SK.belowBase (h : SK enc s w0 blk off n d W) {B : Nat} (hB : B ≤ blk) : Below B w0 W :=
 ⟨h.os, h.tape, h.output, h.size, fun k hk => h.block k (by have := h.lt; omega) (by omega)⟩
theorem SK.start {base c : Nat} {e : TypeId} {l : List α} {g : Nat} (hl : ∀ x, (enc x).length = s) (hs : 0 < s) (h : OwnR enc s e w0 base (.slice (some ⟨g, 0, none⟩) l.length c) l) (hd : ∀ j x, l[j]? = some x → d j = x) : SK enc s w0 g 0 l.length d w0 := by
 have hlt := (h.lt g rfl).2
 have hobj := h.2
 refine ⟨rfl, rfl, rfl, Nat.le_refl _, fun _ _ _ => rfl, hlt, fun j hj i v hv => ?_, fun k hk => ?_, ?_⟩
 ·have hx : l[j]? = some l[j] := List.getElem?_eq_getElem hj
  have his : i < s := by have := (List.getElem?_eq_some_iff.1 hv).1; rw [hl] at this; exact this
  rw [hd j _ hx] at hv
  have h1 : j * s + i < l.length * s := by
   have : (j + 1) * s ≤ l.length * s := Nat.mul_le_mul_right s hj
   rw [Nat.add_mul] at this
   omega
  rw [Nat.zero_add, World.ownsRow.cellAt h (j * s + i) h1, flat_at hl hx his]
  exact hv
 ·refine ⟨?_, by rw [Nat.zero_add]; exact World.ownsRow.frozenAt h k⟩
  rw [Nat.zero_add, World.ownsRow.cellAt h k hk, List.getElem?_eq_getElem (by rw [flat_len hl]; exact hk)]
  rfl
 ·rcases hobj with ⟨h1, _⟩ | ⟨g', cap, cur, hv, hg, hh, _⟩
  ·cases h1
  ·cases hv
   exact ⟨cur, cur, e, _, hh, hh, rfl, fun _ _ => rfl⟩
theorem SK.owned {base c : Nat} {e : TypeId} {l l' : List α} {g : Nat} (hl : ∀ x, (enc x).length = s) (hs : 0 < s) (h : SK enc s w0 g 0 l.length d W) (ho : OwnR enc s e w0 base (.slice (some ⟨g, 0, none⟩) l.length c) l) (hn : l'.length = l.length) (hd : ∀ j, j < l.length → l'[j]? = some (d j)) :
  OwnR enc s e W base (.slice (some ⟨g, 0, none⟩) l.length c) l' := by
 refine ⟨by rw [flat_len hl, hn], ?_⟩
 rcases ho.2 with ⟨h1, _⟩ | ⟨g', cap, cur, hv, hg, hh, hnc, hm, hsz, ht⟩
 ·cases h1
 ·cases hv
  obtain ⟨c1, c', e', fr, h1, h2, h3, h4⟩ := h.obj
  rw [hh] at h1
  cases h1
  refine .inr ⟨g, c, c', by rw [hn], hg, h2, by rw [hn]; exact hnc, hm, by rw [h3]; exact hsz, ?_⟩
  rw [hn]
  apply List.ext_getElem?
  intro k
  by_cases hk : k < l.length * s
  ·have hj : k / s < l.length := (Nat.div_lt_iff_lt_mul hs).2 hk
   have hkm : k / s * s + k % s = k := by have := Nat.div_add_mod k s; rw [Nat.mul_comm] at this; exact this
   have hm2 : k % s < s := Nat.mod_lt _ hs
   have hx := hd (k / s) hj
   have hf := flat_at (f := enc) hl hx hm2
   rw [hkm] at hf
   have hxe : (enc (d (k / s)))[k % s]? = some ((enc (d (k / s)))[k % s]'(by rw [hl]; exact hm2)) := List.getElem?_eq_getElem _
   have hc := h.cells (k / s) hj (k % s) _ hxe
   rw [Nat.zero_add, hkm] at hc
   simp only [World.cell?, h2] at hc
   rw [hf, hxe, List.getElem?_take, if_pos hk]
   simpa using hc
  ·rw [List.getElem?_eq_none (by rw [List.length_take]; omega), List.getElem?_eq_none (by rw [flat_len hl, hn]; omega)]
end
end Go.Proofs.YthcabnfcgjnlnaaGreatDoor
