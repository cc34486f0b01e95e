/-
  A REGION THAT DRAWS ITS ORDER, one operation of which lays a block and a later one fills it, beside operations that lay rows of their own: each operation is shown once.
-/
import Derived.Test.YtdpllfgnppeneaaGreatDoorRegionA
namespace Go.Proofs.YtdpllfgnppeneaaGreatDoor
open Go Go.RowKit
set_option linter.unusedVariables false
variable {P : Program} {ops : Array Oper} {Q : Exit → Act → World → Prop}

inductive ToldG where
  | is (v : Value)
  | new
  | put
  | own (p : Value → World → Prop) (feet : Value → Nat → Prop) (h : ∀ v w w', p v w → Below w.heap.size w w' → p v w') (hX : ∀ v w w' q, p v w → ¬ feet v q → BelowX q w w' → p v w') (hl : ∀ v w b, p v w → feet v b → b < w.heap.size)
def ToldG.holds (n : Nat) (w0 : World) : ToldG → Value → World → Prop
  | .is v, u, _ => u = v
  | .new, u, w => NewAt n w0 u w
  | .put, _, _ => True
  | .own p _ _ _ _, u, w => p u w
def ToldG.feet : ToldG → Value → Nat → Prop
  | .own _ f _ _ _, v, b => f v b
  | _, _, _ => False
def toldAtG (n : Nat) (w0 : World) (Vs : List ToldG) (i : Nat) : Value → World → Prop := match Vs[i]? with
  | none => fun _ _ => True
  | some t => t.holds n w0
def feetAt (Vs : List ToldG) (i : Nat) : Value → Nat → Prop := match Vs[i]? with
  | none => fun _ _ => False
  | some t => t.feet
theorem toldAtG_kept (n : Nat) (hn : 0 < n) (w0 : World) (Vs : List ToldG) (i : Nat) (v : Value) (w w' : World) (h : toldAtG n w0 Vs i v w) (hb : Below w.heap.size w w') : toldAtG n w0 Vs i v w' := by
  unfold toldAtG at *
  cases hi : Vs[i]? with
  | none => trivial
  | some t =>
    rw [hi] at h
    cases t with
    | is x => exact h
    | new => exact NewAt.on h hn hb
    | put => trivial
    | own p f hp _ _ => exact hp _ _ _ h hb
theorem toldAtG_keptX (n q : Nat) (w0 : World) (Vs : List ToldG) (i : Nat) (v : Value) (w w' : World) (h : toldAtG n w0 Vs i v w) (hf : ¬ feetAt Vs i v q) (hb : BelowX q w w') : toldAtG n w0 Vs i v w' := by
  unfold toldAtG feetAt at *
  cases hi : Vs[i]? with
  | none => trivial
  | some t =>
    rw [hi] at h hf
    cases t with
    | is x => exact h
    | new => exact NewAt.onX h hb
    | put => trivial
    | own p f _ hX _ => exact hX _ _ _ _ h hf hb
theorem toldAtG_lt (n : Nat) (w0 : World) (Vs : List ToldG) (i : Nat) (v : Value) (w : World) (h : toldAtG n w0 Vs i v w) (b : Nat) (hf : feetAt Vs i v b) : b < w.heap.size := by
  unfold toldAtG feetAt at *
  cases hi : Vs[i]? with
  | none => rw [hi] at hf; exact hf.elim
  | some t =>
    rw [hi] at h hf
    cases t with
    | own p f _ _ hl => exact hl _ _ _ h hf
    | is x => exact hf.elim
    | new => exact hf.elim
    | put => exact hf.elim
def kindG (Vs : List ToldG) (i : Nat) : Nat := match Vs[i]? with
  | some .put => 1
  | some .new => 2
  | some (.own _ _ _ _ _) => 3
  | _ => 0
theorem feet_none {Vs : List ToldG} {i : Nat} (h : kindG Vs i ≠ 3) (v : Value) (b : Nat) : ¬ feetAt Vs i v b := by
  unfold kindG at h
  unfold feetAt
  cases hi : Vs[i]? with
  | none => exact id
  | some t =>
    rw [hi] at h
    cases t with
    | own p f _ _ _ => exact absurd rfl h
    | is x => exact id
    | new => exact id
    | put => exact id
theorem einv_step2 {a0 a : Act} {C : World → Prop} {V : Nat → Value → World → Prop} {l : Array Bool} {w w' : World} {i : Nat} {o : Oper} {v : Value} (hdist : distB ops = true) (hdst : dstB ops a0.tmps.size = true)
    (h : EInv ops a0 C V l a w) (ho : ops[i]? = some o) (hC : C w') (hv : V i (match o.dst with | none => undef | some _ => v) w') (hk : ∀ j oj, j ≠ i → ops[j]? = some oj → l.getD j false = true → V j (slotV oj a) w → V j (slotV oj a) w') : EInv ops a0 C V (l.setIfInBounds i true) (a.put o.dst v) w' := by
  have hi : i < l.size := by rw [h.len]; exact (Array.getElem?_eq_some_iff.1 ho).1
  refine ⟨by simpa using h.len, hC, (put_size _ _ _).trans h.size, (put_defers _ _ _).trans h.defers, fun s hs => ?_, fun j oj hj hl => ?_⟩
  · rw [← h.old s hs]
    cases hd : o.dst with
    | none => rfl
    | some t =>
      have hne : t ≠ s := fun e => hs i o ho (by rw [hd, e])
      show (a.tmps.setIfInBounds t v).getD s undef = _
      rw [Array.getD_eq_getD_getElem?, Array.getD_eq_getD_getElem?, Array.getElem?_setIfInBounds_ne hne]
  · by_cases e : i = j
    · subst e
      rw [ho] at hj
      cases hj
      have : slotV o (a.put o.dst v) = match o.dst with | none => undef | some _ => v := by
        unfold slotV
        cases hd : o.dst with
        | none => rfl
        | some t =>
          have ht : t < a.tmps.size := by rw [h.size]; exact dst_of hdst i o t ho hd
          show (a.tmps.setIfInBounds t v).getD t undef = v
          simp [Array.getD, ht]
      rw [this]
      exact hv
    · rw [getD_set_ne e] at hl
      have : slotV oj (a.put o.dst v) = slotV oj a := by
        unfold slotV
        cases hd : o.dst with
        | none => rfl
        | some t =>
          cases hdj : oj.dst with
          | none => rfl
          | some s =>
            have hne : t ≠ s := fun e2 => e (dist_of hdist i j o oj t ho hj hd (by rw [hdj, e2]))
            show (a.tmps.setIfInBounds t v).getD s undef = a.tmps.getD s undef
            rw [Array.getD_eq_getD_getElem?, Array.getD_eq_getD_getElem?, Array.getElem?_setIfInBounds_ne hne]
      rw [this]
      exact hk j oj (Ne.symm e) hj hl (h.new j oj hj hl)
/-- The block, filled with the cells of another result. -/
def FilledG (w0 : World) (u s : Value) (w : World) : Prop := ∃ b cs, u = .pointer (some ⟨b, 0, none⟩) ∧ w0.heap.size ≤ b ∧ b < w.heap.size ∧ w.rangeAt b 0 cs ∧ s = .agg cs.toArray
theorem FilledG.on {w0 : World} {u s : Value} {w w' : World} (h : FilledG w0 u s w) (hb : Below w.heap.size w w') : FilledG w0 u s w' := by
  obtain ⟨b, cs, e, h1, h2, h3, h4⟩ := h
  exact ⟨b, cs, e, h1, Nat.lt_of_lt_of_le h2 hb.size, fun j v hv => by rw [hb.cell (p := ⟨b, 0 + j, none⟩) h2]; exact h3 j v hv, h4⟩
structure EInvG (ops : Array Oper) (a0 : Act) (w0 : World) (n p st src : Nat) (Vs : List ToldG) (l : Array Bool) (a : Act) (w : World) : Prop where
  inv : EInv ops a0 (fun w => Below w0.heap.size w0 w) (toldAtG n w0 Vs) l a w
  link : l.getD st false = true → l.getD p false = true ∧ l.getD src false = true ∧ ∀ op os, ops[p]? = some op → ops[src]? = some os → FilledG w0 (slotV op a) (slotV os a) w
  off : l.getD p false = true → ∀ op j o b, ops[p]? = some op → ops[j]? = some o → l.getD j false = true → slotV op a = .pointer (some ⟨b, 0, none⟩) → ¬ feetAt Vs j (slotV o a) b
/-- What is asked of an operation besides its result: by its kind. -/
def postG (p src : Nat) (w0 : World) (Vs : List ToldG) (o : Oper) (vals : Nat → Value) (v : Value) (w w' : World) : Nat → Prop
  | 1 => (o.after.toList.any fun e => Region.binds .any e && e.on == p) = true ∧ (o.after.toList.any fun e => Region.binds .any e && e.on == src) = true ∧ ∃ b cs, vals p = .pointer (some ⟨b, 0, none⟩) ∧ w0.heap.size ≤ b ∧ b < w.heap.size ∧ BelowX b w w' ∧ w'.rangeAt b 0 cs ∧ vals src = .agg cs.toArray
  | 2 => Below w.heap.size w w' ∧ ∀ b, v = .pointer (some ⟨b, 0, none⟩) → w.heap.size ≤ b
  | 3 => Below w.heap.size w w' ∧ True
  | _ => Below w.heap.size w w'
/-- Each operation of a list, from what is told of those that it waits for. -/
def StepsG (P : Program) (Q : Exit → Act → World → Prop) (n p src : Nat) (all : List Oper) (a0 : Act) (w0 : World) (Vs : List ToldG) : Nat → List Oper → Prop
  | _, [] => True
  | i, o :: r => (∀ (w : World) (vals : Nat → Value), Below w0.heap.size w0 w → (∀ j, (o.after.toList.any fun e => Region.binds .any e && e.on == j) = true → toldAtG n w0 Vs j (vals j) w) →
      ∀ a : Act, a = putAll all 0 vals a0 → ∀ K : Act → World → Prop, (∀ v w', toldAtG n w0 Vs i (match o.dst with | none => undef | some _ => v) w' → postG p src w0 Vs o vals (match o.dst with | none => undef | some _ => v) w w' (kindG Vs i) →
        (∀ b, feetAt Vs i (match o.dst with | none => undef | some _ => v) b → w.heap.size ≤ b ∨ ∃ k, (o.after.toList.any fun e => Region.binds .any e && e.on == k) = true ∧ feetAt Vs k (vals k) b) → K (a.put o.dst v) w') → gwp P Q o vals a w K) ∧ StepsG P Q n p src all a0 w0 Vs (i + 1) r
theorem stepsG_get {n p src : Nat} {all : List Oper} {a0 : Act} {w0 : World} {Vs : List ToldG} : ∀ {l : List Oper} {k i : Nat} {o : Oper}, StepsG P Q n p src all a0 w0 Vs k l → l[i]? = some o →
    ∀ (w : World) (vals : Nat → Value), Below w0.heap.size w0 w → (∀ j, (o.after.toList.any fun e => Region.binds .any e && e.on == j) = true → toldAtG n w0 Vs j (vals j) w) →
      ∀ K : Act → World → Prop, (∀ v w', toldAtG n w0 Vs (k + i) (match o.dst with | none => undef | some _ => v) w' → postG p src w0 Vs o vals (match o.dst with | none => undef | some _ => v) w w' (kindG Vs (k + i)) →
        (∀ b, feetAt Vs (k + i) (match o.dst with | none => undef | some _ => v) b → w.heap.size ≤ b ∨ ∃ k', (o.after.toList.any fun e => Region.binds .any e && e.on == k') = true ∧ feetAt Vs k' (vals k') b) → K ((putAll all 0 vals a0).put o.dst v) w') → gwp P Q o vals (putAll all 0 vals a0) w K
  | [], _, _, _, _, h => by simp at h
  | x :: r, k, 0, o, hs, h => by
    simp at h
    subst h
    exact fun w vals h1 h2 => hs.1 w vals h1 h2 _ rfl
  | x :: r, k, i + 1, o, hs, h => by
    rw [List.getElem?_cons_succ] at h
    have := stepsG_get hs.2 h
    rw [show k + (i + 1) = k + 1 + i by omega]
    exact this
def kindsOk (p st : Nat) (Vs : List ToldG) : Bool := (List.range Vs.length).all fun i => (kindG Vs i == 1) == (i == st) && ((kindG Vs i == 2) == (i == p))
theorem kindsOk_at {p st : Nat} {Vs : List ToldG} (h : kindsOk p st Vs = true) {i : Nat} (hi : i < Vs.length) : (kindG Vs i == 1) = (i == st) ∧ (kindG Vs i == 2) = (i == p) := by
  have := List.all_eq_true.1 h i (List.mem_range.2 hi)
  rw [Bool.and_eq_true, beq_iff_eq, beq_iff_eq] at this
  exact this
theorem wp_region_toldG {id : Nat} (p st src n : Nat) {a0 : Act} {w0 : World} {l : List Oper} (Vs : List ToldG) (hn : 0 < n) (hm : P.follows .mixedOrders = true) (hb : ((backA l.toArray && (distB l.toArray && dstB l.toArray a0.tmps.size)) && guardB l) = true)
    (hput : (kindsOk p st Vs && (decide (Vs.length = l.length) && (decide (p < l.length) && (decide (p ≠ st) && (decide (src < l.length) && decide (src ≠ st)))))) = true)
    (hstep : StepsG P Q n p src l a0 w0 Vs 0 l)
    (hQ : ∀ (w : World) (vals : Nat → Value), Below w0.heap.size w0 w → (∀ j, j < l.length → toldAtG n w0 Vs j (vals j) w) → (st < l.length → FilledG w0 (vals p) (vals src) w) → Q .normal (putAll l 0 vals a0) w) : (Code.region id l.toArray true).wp P Q a0 w0 := by
  rw [Bool.and_eq_true] at hb
  obtain ⟨hbb, hgb⟩ := hb
  have hbb' := hbb
  rw [Bool.and_eq_true, Bool.and_eq_true] at hbb'
  obtain ⟨hb1, hb2, hb3⟩ := hbb'
  rw [Bool.and_eq_true, Bool.and_eq_true, Bool.and_eq_true, Bool.and_eq_true, Bool.and_eq_true, decide_eq_true_eq, decide_eq_true_eq, decide_eq_true_eq, decide_eq_true_eq, decide_eq_true_eq] at hput
  obtain ⟨hone, hlen, hp, hpst, hsr, hsst⟩ := hput
  have hrep : ∀ i, (Array.replicate l.toArray.size false).getD i false = false := fun i => by
    simp only [Array.getD]
    split <;> simp
  have hval : ∀ (d : Array Bool) (a : Act) (w : World), EInv l.toArray a0 (fun w => Below w0.heap.size w0 w) (toldAtG n w0 Vs) d a w → ∀ j, j < l.toArray.size → d.getD j false = true → toldAtG n w0 Vs j (valsOf l.toArray a j) w := by
    intro d a w h j hj hl
    have := h.new j l.toArray[j] (Array.getElem?_eq_getElem hj) hl
    unfold valsOf
    rw [Array.getElem?_eq_getElem hj]
    exact this
  have hop : l.toArray[p]? = some l.toArray[p] := Array.getElem?_eq_getElem (by simpa using hp)
  have hos : l.toArray[src]? = some l.toArray[src] := Array.getElem?_eq_getElem (by simpa using hsr)
  refine wp_region_inv hm (EInvG l.toArray a0 w0 n p st src Vs) ⟨⟨by simp, (Below.refl _ _).drew, rfl, rfl, fun _ _ => rfl, (fun i o _ hl => by rw [hrep] at hl; cases hl)⟩, (fun hl => by rw [hrep] at hl; cases hl), (fun hl => by rw [hrep] at hl; cases hl)⟩ (fun d a w h hr => ?_) ?_
  · have hall := all_listedA hb1 h.inv.len hr
    have := hQ w (valsOf l.toArray a) h.inv.cls (fun j hj => hval d a w h.inv j (by simpa using hj) (hall j (by simpa using hj))) (fun hst => by
      have := (h.link (hall st (by simpa using hst))).2.2 _ _ hop hos
      unfold valsOf
      rw [hop, hos]
      exact this)
    rw [show l = l.toArray.toList from rfl, putAll_of h.inv.size h.inv.defers h.inv.old] at this
    exact this
  · intro d a w i h hi
    obtain ⟨hun, o, ho, hr⟩ := mem_ready.1 hi
    have hdep : ∀ j, (o.after.any fun e => Region.binds .any e && e.on == j) = true → j < l.toArray.size ∧ d.getD j false = true := fun j hj => by
      obtain ⟨e, he, h2⟩ := Array.any_eq_true'.1 hj
      rw [Bool.and_eq_true, beq_iff_eq] at h2
      have h3 := hr e he h2.1
      have hj2 : e.on < l.toArray.size := by
        have h5 := backA_at hb1 ho he h2.1
        have := (Array.getElem?_eq_some_iff.1 ho).1
        omega
      rw [← h2.2]
      exact ⟨hj2, h3⟩
    have hdepL : ∀ j, (o.after.toList.any fun e => Region.binds .any e && e.on == j) = true → j < l.toArray.size ∧ d.getD j false = true := fun j hj => hdep j (by rw [← Array.any_toList]; exact hj)
    have hol : l[i]? = some o := by simpa using ho
    have hil : i < l.length := (List.getElem?_eq_some_iff.1 hol).1
    obtain ⟨hk1, hk2⟩ := kindsOk_at hone (i := i) (by omega)
    have hidl : i < d.size := by rw [h.inv.len]; simpa using hil
    have hund : d.getD i false = false := by
      have h1 : d.getD i true = false := hun
      simp only [Array.getD, hidl, dif_pos] at h1 ⊢
      exact h1
    have hpa : putAll l 0 (valsOf l.toArray a) a0 = a := by rw [show l = l.toArray.toList from rfl]; exact putAll_of h.inv.size h.inv.defers h.inv.old
    have hs := wpOp_of_gwp (Q := Q) (w := w) (K := fun a' w' => EInvG l.toArray a0 w0 n p st src Vs (d.setIfInBounds i true) a' w') hb2 hb3 hol hgb (stepsG_get hstep hol w (valsOf l.toArray a) h.inv.cls (fun j hj => hval d a w h.inv j (hdepL j hj).1 (hdepL j hj).2) _ fun v w' h1 h2 h3 => by
        rw [Nat.zero_add] at h1 h2 h3
        rw [hpa]
        -- the feet of what was there keep off the new block, and the new feet off the block that was there
        have hoff : ∀ hB : Below w.heap.size w w', (i = p → ∀ b, (match o.dst with | none => undef | some _ => v : Value) = .pointer (some ⟨b, 0, none⟩) → w.heap.size ≤ b) →
            (d.setIfInBounds i true).getD p false = true → ∀ op j oj b, l.toArray[p]? = some op → l.toArray[j]? = some oj → (d.setIfInBounds i true).getD j false = true → slotV op (a.put o.dst v) = .pointer (some ⟨b, 0, none⟩) → ¬ feetAt Vs j (slotV oj (a.put o.dst v)) b := by
          intro hB hnew hlp op j oj b hop' hoj hlj hsl hft
          by_cases hip : i = p
          · subst hip
            rw [ho] at hop'
            cases hop'
            by_cases hij : i = j
            · subst hij
              rw [ho] at hoj
              cases hoj
              exact feet_none (by intro e; rw [e] at hk2; simp at hk2) _ _ hft
            · rw [slot_put_self hb3 h.inv.size ho] at hsl
              rw [slot_put_other hb2 hij ho hoj] at hft
              rw [getD_set_ne hij] at hlj
              have g1 := hnew rfl b hsl
              have g2 := toldAtG_lt n w0 Vs j _ w (h.inv.new j oj hoj hlj) b hft
              omega
          · rw [getD_set_ne hip] at hlp
            rw [slot_put_other hb2 hip ho hop'] at hsl
            by_cases hij : i = j
            · subst hij
              rw [ho] at hoj
              cases hoj
              rw [slot_put_self hb3 h.inv.size ho] at hft
              rcases h3 b hft with g1 | ⟨k, g1, g2⟩
              · have g3 := h.inv.new p op hop' hlp
                have hkp := kindsOk_at hone (i := p) (by omega)
                have g4 : ∃ b', slotV op a = .pointer (some ⟨b', 0, none⟩) ∧ b' < w.heap.size := by
                  unfold toldAtG at g3
                  have e2 := hkp.2
                  unfold kindG at e2
                  cases hv : Vs[p]? with
                  | none => rw [hv] at e2; simp at e2
                  | some t =>
                    rw [hv] at e2 g3
                    cases t with
                    | new => obtain ⟨b', e, _, hlt, _⟩ := g3; exact ⟨b', e, hlt⟩
                    | is x => simp at e2
                    | put => simp at e2
                    | own _ _ _ _ _ => simp at e2
                obtain ⟨b', e, hlt⟩ := g4
                rw [hsl] at e
                cases e
                omega
              · obtain ⟨gk1, gk2⟩ := hdepL k g1
                have hok : l.toArray[k]? = some l.toArray[k] := Array.getElem?_eq_getElem gk1
                have e1 : valsOf l.toArray a k = slotV l.toArray[k] a := by unfold valsOf; rw [hok]
                rw [e1] at g2
                exact h.off hlp op k _ b hop' hok gk2 hsl g2
            · rw [slot_put_other hb2 hij ho hoj] at hft
              rw [getD_set_ne hij] at hlj
              exact h.off hlp op j oj b hop' hoj hlj hsl hft
        by_cases hst : i = st
        · have hkk : kindG Vs i = 1 := by rw [hst] at hk1 ⊢; simpa using hk1
          rw [hkk] at h2
          obtain ⟨hdp, hds, b, cs, hvb, hb0, hbw, hX, hrg, hsc⟩ := h2
          obtain ⟨gs1, gs2⟩ := hdepL src hds
          have e2 : valsOf l.toArray a src = slotV l.toArray[src] a := by unfold valsOf; rw [hos]
          rw [e2] at hsc
          obtain ⟨gp1, gp2⟩ := hdepL p hdp
          have e1 : valsOf l.toArray a p = slotV l.toArray[p] a := by unfold valsOf; rw [hop]
          rw [e1] at hvb
          have hip : i ≠ p := by omega
          refine ⟨einv_step2 hb2 hb3 h.inv ho (h.inv.cls.trans (hX.below hb0 h.inv.cls.size)) h1 (fun j oj hji hoj hlj hu => toldAtG_keptX n b w0 Vs j _ w w' hu (h.off gp2 _ j oj b hop hoj hlj hvb) hX), fun _ => ⟨?_, ?_, fun op os hop' hos' => ?_⟩, ?_⟩
          · rw [getD_set_ne hip]
            exact gp2
          · rw [getD_set_ne (by omega)]
            exact gs2
          · rw [slot_put_other hb2 hip ho hop', slot_put_other hb2 (by omega) ho hos']
            rw [hop] at hop'
            cases hop'
            rw [hos] at hos'
            cases hos'
            exact ⟨b, cs, hvb, hb0, Nat.lt_of_lt_of_le hbw hX.size, hrg, hsc⟩
          · intro hlp op j oj b' hop' hoj hlj hsl hft
            rw [slot_put_other hb2 hip ho hop'] at hsl
            by_cases hij : i = j
            · subst hij
              exact feet_none (by rw [hkk]; decide) _ _ hft
            · rw [slot_put_other hb2 hij ho hoj] at hft
              rw [getD_set_ne hij] at hlj
              exact h.off gp2 op j oj b' hop' hoj hlj hsl hft
        · have hB : Below w.heap.size w w' := by
            have hk0 : kindG Vs i ≠ 1 := fun e => by rw [e] at hk1; simp [hst] at hk1
            generalize kindG Vs i = k at h2 hk0
            match k, h2 with
            | 0, h => exact h
            | 1, _ => exact absurd rfl hk0
            | 2, h => exact h.1
            | 3, h => exact h.1
            | k + 4, h => exact h
          have hnew : i = p → ∀ b, (match o.dst with | none => undef | some _ => v : Value) = .pointer (some ⟨b, 0, none⟩) → w.heap.size ≤ b := fun e => by
            have hkk : kindG Vs i = 2 := by rw [e] at hk2 ⊢; simpa using hk2
            rw [hkk] at h2
            exact h2.2
          refine ⟨einv_step hb2 hb3 h.inv ho (h.inv.cls.trans (hB.mono h.inv.cls.size)) h1 (fun j u _ hu => toldAtG_kept n hn w0 Vs j u w w' hu hB), fun hl => ?_, hoff hB hnew⟩
          rw [getD_set_ne hst] at hl
          obtain ⟨g1, g3, g2⟩ := h.link hl
          have hip : i ≠ p := fun e => by rw [e] at hund; rw [hund] at g1; cases g1
          have his : i ≠ src := fun e => by rw [e] at hund; rw [hund] at g3; cases g3
          refine ⟨by rw [getD_set_ne hip]; exact g1, by rw [getD_set_ne his]; exact g3, fun op os hop' hos' => ?_⟩
          rw [slot_put_other hb2 hip ho hop', slot_put_other hb2 his ho hos']
          exact (g2 op os hop' hos').on hB)
    rw [hpa] at hs
    exact hs
theorem toldG_at {n : Nat} {w0 : World} {Vs : List ToldG} {i : Nat} {v : Value} {w : World} {t : ToldG} (h : toldAtG n w0 Vs i v w) (ht : Vs[i]? = some t) : t.holds n w0 v w := by
  unfold toldAtG at h
  rw [ht] at h
  exact h
end Go.Proofs.YtdpllfgnppeneaaGreatDoor
