/-
  A REGION THAT DRAWS ITS ORDER, one operation of which lays a block and a later one fills it: each operation is shown once.
-/
import Derived.Test.YtdpllfgnppeneaaGreatDoorG11
import Derived.Test.YtdpllfgnppeneaaGreatDoorG13
namespace Go.Proofs.YtdpllfgnppeneaaGreatDoor
open Go Go.RowKit
set_option linter.unusedVariables false
variable {P : Program} {ops : Array Oper} {Q : Exit → Act → World → Prop}

/-- Each operation waits for earlier ones alone (edges that bind). -/
def backA (ops : Array Oper) : Bool := (List.range ops.size).all fun i => match ops[i]? with
  | none => true
  | some o => o.after.all fun e => !(Region.binds .any e) || decide (e.on < i)
theorem backA_at (hb : backA ops = true) {i : Nat} {o : Oper} (ho : ops[i]? = some o) {e : Edge} (he : e ∈ o.after) (hbd : Region.binds .any e = true) : e.on < i := by
  have h1 := List.all_eq_true.1 hb i (List.mem_range.2 (Array.getElem?_eq_some_iff.1 ho).1)
  rw [ho] at h1
  have h2 := Array.all_eq_true'.1 h1 e he
  rw [hbd] at h2
  simpa using h2
theorem all_listedA {l : Array Bool} (hb : backA ops = true) (hl : l.size = ops.size) (h0 : Region.ready .any ops l = []) : ∀ i, i < ops.size → l.getD i false = true := by
  intro i
  induction i using Nat.strongRecOn with
  | _ i ih =>
    intro hi
    cases hh : l.getD i false with
    | true => rfl
    | false =>
      have hmem : i ∈ Region.ready .any ops l := by
        refine mem_ready.2 ⟨getD_false_true hh (by omega), ops[i], Array.getElem?_eq_getElem hi, fun e he hbd => ?_⟩
        exact ih e.on (backA_at hb (Array.getElem?_eq_getElem hi) he hbd) (by have := backA_at hb (Array.getElem?_eq_getElem hi) he hbd; omega)
      rw [h0] at hmem
      cases hmem
/-- A pointer to the new block. -/
def NewAt (n : Nat) (w0 : World) (u : Value) (w : World) : Prop := ∃ b, u = .pointer (some ⟨b, 0, none⟩) ∧ w0.heap.size ≤ b ∧ b < w.heap.size ∧ w.there b 0 n
theorem NewAt.on {n : Nat} {w0 : World} {u : Value} {w w' : World} (h : NewAt n w0 u w) (hn : 0 < n) (hb : Below w.heap.size w w') : NewAt n w0 u w' := by
  obtain ⟨b, e, h1, h2, h3⟩ := h
  exact ⟨b, e, h1, Nat.lt_of_lt_of_le h2 hb.size, fun j hj => by
    obtain ⟨g1, g2⟩ := h3 j hj
    exact ⟨by rw [hb.cell (p := ⟨b, 0 + j, none⟩) h2]; exact g1, (hb.frozen (p := ⟨b, 0 + j, none⟩) h2).trans g2⟩⟩
theorem NewAt.onX {n q : Nat} {w0 : World} {u : Value} {w w' : World} (h : NewAt n w0 u w) (hb : BelowX q w w') : NewAt n w0 u w' := by
  obtain ⟨b, e, h1, h2, h3⟩ := h
  refine ⟨b, e, h1, Nat.lt_of_lt_of_le h2 hb.size, ?_⟩
  by_cases hq : b = q
  · subst hq; exact hb.keep n h3
  · intro j hj
    obtain ⟨g1, g2⟩ := h3 j hj
    have hbl := hb.block b h2 hq
    exact ⟨by rw [World.cell?_of_block (a := ⟨b, 0 + j, none⟩) hbl]; exact g1, by rw [World.frozen?_of_block (a := ⟨b, 0 + j, none⟩) hbl]; exact g2⟩
inductive ToldA where
  | is (v : Value)
  | new
  | put
def ToldA.holds (n : Nat) (w0 : World) : ToldA → Value → World → Prop
  | .is v, u, _ => u = v
  | .new, u, w => NewAt n w0 u w
  | .put, _, _ => True
def ToldA.isPut : ToldA → Bool
  | .put => true
  | _ => false
def toldAtA (n : Nat) (w0 : World) (Vs : List ToldA) (i : Nat) : Value → World → Prop := match Vs[i]? with
  | none => fun _ _ => True
  | some t => t.holds n w0
theorem toldAtA_kept (n : Nat) (hn : 0 < n) (w0 : World) (Vs : List ToldA) (i : Nat) (v : Value) (w w' : World) (h : toldAtA n w0 Vs i v w) (hb : Below w.heap.size w w') : toldAtA n w0 Vs i v w' := by
  unfold toldAtA at *
  cases hi : Vs[i]? with
  | none => trivial
  | some t =>
    rw [hi] at h
    cases t with
    | is x => exact h
    | new => exact NewAt.on h hn hb
    | put => trivial
theorem toldAtA_keptX (n q : Nat) (w0 : World) (Vs : List ToldA) (i : Nat) (v : Value) (w w' : World) (h : toldAtA n w0 Vs i v w) (hb : BelowX q w w') : toldAtA n w0 Vs i v w' := by
  unfold toldAtA at *
  cases hi : Vs[i]? with
  | none => trivial
  | some t =>
    rw [hi] at h
    cases t with
    | is x => exact h
    | new => exact NewAt.onX h hb
    | put => trivial
def putAt (Vs : List ToldA) (i : Nat) : Bool := match Vs[i]? with
  | some .put => true
  | _ => false
/-- The block, filled. -/
def Filled (n : Nat) (cs : List Value) (w0 : World) (u : Value) (w : World) : Prop := ∃ b, u = .pointer (some ⟨b, 0, none⟩) ∧ w0.heap.size ≤ b ∧ b < w.heap.size ∧ w.rangeAt b 0 cs
theorem Filled.on {n : Nat} {cs : List Value} {w0 : World} {u : Value} {w w' : World} (h : Filled n cs w0 u w) (hb : Below w.heap.size w w') : Filled n cs w0 u w' := by
  obtain ⟨b, e, h1, h2, h3⟩ := h
  exact ⟨b, e, h1, Nat.lt_of_lt_of_le h2 hb.size, fun j v hv => by rw [hb.cell (p := ⟨b, 0 + j, none⟩) h2]; exact h3 j v hv⟩
structure EInvA (ops : Array Oper) (a0 : Act) (w0 : World) (n p st : Nat) (cs : List Value) (Vs : List ToldA) (l : Array Bool) (a : Act) (w : World) : Prop where
  inv : EInv ops a0 (fun w => Below w0.heap.size w0 w) (toldAtA n w0 Vs) l a w
  link : l.getD st false = true → l.getD p false = true ∧ ∀ op, ops[p]? = some op → Filled n cs w0 (slotV op a) w
/-- Each operation of a list, from what is told of those that it waits for. -/
def StepsA (P : Program) (Q : Exit → Act → World → Prop) (n p : Nat) (cs : List Value) (all : List Oper) (a0 : Act) (w0 : World) (Vs : List ToldA) : Nat → List Oper → Prop
  | _, [] => True
  | i, o :: r => (∀ (w : World) (vals : Nat → Value), Below w0.heap.size w0 w → (∀ j, (o.after.toList.any fun e => Region.binds .any e && e.on == j) = true → toldAtA n w0 Vs j (vals j) w) →
      ∀ a : Act, a = putAll all 0 vals a0 → ∀ K : Act → World → Prop, (∀ v w', toldAtA n w0 Vs i (match o.dst with | none => undef | some _ => v) w' → (if putAt Vs i = true then (o.after.toList.any fun e => Region.binds .any e && e.on == p) = true ∧ ∃ b, vals p = .pointer (some ⟨b, 0, none⟩) ∧ w0.heap.size ≤ b ∧ b < w.heap.size ∧ BelowX b w w' ∧ w'.rangeAt b 0 cs else Below w.heap.size w w') → K (a.put o.dst v) w') → gwp P Q o vals a w K) ∧ StepsA P Q n p cs all a0 w0 Vs (i + 1) r
theorem stepsA_get {n p : Nat} {cs : List Value} {all : List Oper} {a0 : Act} {w0 : World} {Vs : List ToldA} : ∀ {l : List Oper} {k i : Nat} {o : Oper}, StepsA P Q n p cs all a0 w0 Vs k l → l[i]? = some o →
    ∀ (w : World) (vals : Nat → Value), Below w0.heap.size w0 w → (∀ j, (o.after.toList.any fun e => Region.binds .any e && e.on == j) = true → toldAtA n w0 Vs j (vals j) w) →
      ∀ K : Act → World → Prop, (∀ v w', toldAtA n w0 Vs (k + i) (match o.dst with | none => undef | some _ => v) w' → (if putAt Vs (k + i) = true then (o.after.toList.any fun e => Region.binds .any e && e.on == p) = true ∧ ∃ b, vals p = .pointer (some ⟨b, 0, none⟩) ∧ w0.heap.size ≤ b ∧ b < w.heap.size ∧ BelowX b w w' ∧ w'.rangeAt b 0 cs else Below w.heap.size w w') → K ((putAll all 0 vals a0).put o.dst v) w') → gwp P Q o vals (putAll all 0 vals a0) w K
  | [], _, _, _, _, h => by simp at h
  | x :: r, k, 0, o, hs, h => by
    simp at h
    subst h
    exact fun w vals h1 h2 => hs.1 w vals h1 h2 _ rfl
  | x :: r, k, i + 1, o, hs, h => by
    rw [List.getElem?_cons_succ] at h
    have := stepsA_get hs.2 h
    rw [show k + (i + 1) = k + 1 + i by omega]
    exact this
def onePut (st : Nat) (Vs : List ToldA) : Bool := (List.range Vs.length).all fun i => putAt Vs i == (i == st)
theorem onePut_at {st : Nat} {Vs : List ToldA} (h : onePut st Vs = true) {i : Nat} (hi : i < Vs.length) : putAt Vs i = (i == st) := by
  have := List.all_eq_true.1 h i (List.mem_range.2 hi)
  simpa using this
theorem wp_region_toldA {id : Nat} (p st n : Nat) (cs : List Value) {a0 : Act} {w0 : World} {l : List Oper} (Vs : List ToldA) (hn : 0 < n) (hm : P.follows .mixedOrders = true) (hb : ((backA l.toArray && (distB l.toArray && dstB l.toArray a0.tmps.size)) && guardB l) = true)
    (hput : (onePut st Vs && (decide (Vs.length = l.length) && (decide (p < l.length) && decide (p ≠ st)))) = true)
    (hstep : StepsA P Q n p cs l a0 w0 Vs 0 l)
    (hQ : ∀ (w : World) (vals : Nat → Value), Below w0.heap.size w0 w → (∀ j, j < l.length → toldAtA n w0 Vs j (vals j) w) → (st < l.length → Filled n cs w0 (vals p) w) → Q .normal (putAll l 0 vals a0) w) : (Code.region id l.toArray true).wp P Q a0 w0 := by
  rw [Bool.and_eq_true] at hb
  obtain ⟨hbb, hgb⟩ := hb
  have hbb' := hbb
  rw [Bool.and_eq_true, Bool.and_eq_true] at hbb'
  obtain ⟨hb1, hb2, hb3⟩ := hbb'
  rw [Bool.and_eq_true, Bool.and_eq_true, Bool.and_eq_true, decide_eq_true_eq, decide_eq_true_eq, decide_eq_true_eq] at hput
  obtain ⟨hone, hlen, hp, hpst⟩ := hput
  have hrep : ∀ i, (Array.replicate l.toArray.size false).getD i false = false := fun i => by
    simp only [Array.getD]
    split <;> simp
  have hval : ∀ (d : Array Bool) (a : Act) (w : World), EInv l.toArray a0 (fun w => Below w0.heap.size w0 w) (toldAtA n w0 Vs) d a w → ∀ j, j < l.toArray.size → d.getD j false = true → toldAtA n w0 Vs j (valsOf l.toArray a j) w := by
    intro d a w h j hj hl
    have := h.new j l.toArray[j] (Array.getElem?_eq_getElem hj) hl
    unfold valsOf
    rw [Array.getElem?_eq_getElem hj]
    exact this
  have hop : l.toArray[p]? = some l.toArray[p] := Array.getElem?_eq_getElem (by simpa using hp)
  refine wp_region_inv hm (EInvA l.toArray a0 w0 n p st cs Vs) ⟨⟨by simp, (Below.refl _ _).drew, rfl, rfl, fun _ _ => rfl, fun i o _ hl => by rw [hrep] at hl; cases hl⟩, fun hl => by rw [hrep] at hl; cases hl⟩ (fun d a w h hr => ?_) ?_
  · have hall := all_listedA hb1 h.inv.len hr
    have := hQ w (valsOf l.toArray a) h.inv.cls (fun j hj => hval d a w h.inv j (by simpa using hj) (hall j (by simpa using hj))) (fun hst => by
      have := (h.link (hall st (by simpa using hst))).2 _ hop
      unfold valsOf
      rw [hop]
      exact this)
    rw [show l = l.toArray.toList from rfl, putAll_of h.inv.size h.inv.defers h.inv.old] at this
    exact this
  · intro d a w i h hi
    obtain ⟨hun, o, ho, hr⟩ := mem_ready.1 hi
    have hdep : ∀ j, (o.after.any fun e => Region.binds .any e && e.on == j) = true → j < l.toArray.size ∧ d.getD j false = true := fun j hj => by
      obtain ⟨e, he, h2⟩ := Array.any_eq_true'.1 hj
      rw [Bool.and_eq_true, beq_iff_eq] at h2
      have h3 := hr e he h2.1
      have hj2 : e.on < l.toArray.size := by
        have h5 := backA_at hb1 ho he h2.1
        have := (Array.getElem?_eq_some_iff.1 ho).1
        omega
      rw [← h2.2]
      exact ⟨hj2, h3⟩
    have hol : l[i]? = some o := by simpa using ho
    have hil : i < l.length := (List.getElem?_eq_some_iff.1 hol).1
    have hps := onePut_at hone (i := i) (by omega)
    have hidl : i < d.size := by rw [h.inv.len]; simpa using hil
    have hund : d.getD i false = false := by
      have h1 : d.getD i true = false := hun
      simp only [Array.getD, hidl, dif_pos] at h1 ⊢
      exact h1
    have hs := wpOp_of_gwp (Q := Q) (w := w) (K := fun a' w' => EInvA l.toArray a0 w0 n p st cs Vs (d.setIfInBounds i true) a' w') hb2 hb3 hol hgb (stepsA_get hstep hol w (valsOf l.toArray a) h.inv.cls (fun j hj => by
      have hj2 : (o.after.any fun e => Region.binds .any e && e.on == j) = true := by rw [← Array.any_toList]; exact hj
      exact hval d a w h.inv j (hdep j hj2).1 (hdep j hj2).2) _ fun v w' h1 h2 => by
        rw [Nat.zero_add] at h1 h2
        have hpa : putAll l 0 (valsOf l.toArray a) a0 = a := by rw [show l = l.toArray.toList from rfl]; exact putAll_of h.inv.size h.inv.defers h.inv.old
        rw [hpa]
        by_cases hst : i = st
        · rw [if_pos (by rw [hps, hst]; simp)] at h2
          obtain ⟨hdp, b, hvb, hb0, hbw, hX, hrg⟩ := h2
          have hdp2 : (o.after.any fun e => Region.binds .any e && e.on == p) = true := by rw [← Array.any_toList]; exact hdp
          refine ⟨einv_step hb2 hb3 h.inv ho (h.inv.cls.trans (hX.below hb0 h.inv.cls.size)) h1 (fun j u _ hu => toldAtA_keptX n b w0 Vs j u w w' hu hX), fun _ => ⟨?_, fun op hop' => ?_⟩⟩
          · rw [getD_set_ne (by omega)]
            exact (hdep p hdp2).2
          · rw [slot_put_other hb2 (by omega) ho hop']
            have e1 : valsOf l.toArray a p = slotV op a := by unfold valsOf; rw [hop']
            exact ⟨b, by rw [← e1]; exact hvb, hb0, Nat.lt_of_lt_of_le hbw hX.size, hrg⟩
        · rw [if_neg (by rw [hps]; simp [hst])] at h2
          refine ⟨einv_step hb2 hb3 h.inv ho (h.inv.cls.trans (h2.mono h.inv.cls.size)) h1 (fun j u _ hu => toldAtA_kept n hn w0 Vs j u w w' hu h2), fun hl => ?_⟩
          rw [getD_set_ne hst] at hl
          obtain ⟨g1, g2⟩ := h.link hl
          have hip : i ≠ p := fun e => by rw [e] at hund; rw [hund] at g1; cases g1
          refine ⟨by rw [getD_set_ne hip]; exact g1, fun op hop' => ?_⟩
          rw [slot_put_other hb2 hip ho hop']
          exact (g2 op hop').on h2)
    have hpa : putAll l 0 (valsOf l.toArray a) a0 = a := by rw [show l = l.toArray.toList from rfl]; exact putAll_of h.inv.size h.inv.defers h.inv.old
    rw [hpa] at hs
    exact hs
theorem toldA_at {n : Nat} {w0 : World} {Vs : List ToldA} {i : Nat} {v : Value} {w : World} {t : ToldA} (h : toldAtA n w0 Vs i v w) (ht : Vs[i]? = some t) : t.holds n w0 v w := by
  unfold toldAtA at h
  rw [ht] at h
  exact h
end Go.Proofs.YtdpllfgnppeneaaGreatDoor
