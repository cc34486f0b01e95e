import Derived.Test.YthcabnfcgjnlnaaGreatDoorB10
import Derived.Test.YthcabnfcgjnlnaaGreatDoorLi07
set_option linter.unusedVariables false
set_option linter.unusedSimpArgs false
namespace Go.Proofs.YthcabnfcgjnlnaaGreatDoor
section
open Go Go.RowKit
variable {P : Program} {ops : Array Oper} {Q : Exit → Act → World → Prop}
def backA (ops : Array Oper) : Bool := (List.range ops.size).all fun i => match ops[i]? with
 | none => true
 | some o => o.after.all fun e => !(Region.binds .any e) || decide (e.on < i)
theorem backA_at (hb : backA ops = true) {i : Nat} {o : Oper} (ho : ops[i]? = some o) {e : Edge} (he : e ∈ o.after) (hbd : Region.binds .any e = true) : e.on < i := by
 have h1 := List.all_eq_true.1 hb i (List.mem_range.2 (Array.getElem?_eq_some_iff.1 ho).1);rw [ho] at h1;have h2 := Array.all_eq_true'.1 h1 e he;rw [hbd] at h2;simpa using h2
theorem all_listedA {l : Array Bool} (hb : backA ops = true) (hl : l.size = ops.size) (h0 : Region.ready .any ops l = []) : ∀ i, i < ops.size -> l.getD i false = true := by
 intro i;induction i using Nat.strongRecOn with
 | _ i ih =>
  intro hi
  cases hh : l.getD i false with
  | true => rfl
  | false =>
   have hmem : i ∈ Region.ready .any ops l := by
    refine mem_ready.2 ⟨getD_false_true hh (by omega), ops[i], Array.getElem?_eq_getElem hi, fun e he hbd => ?_⟩;exact ih e.on (backA_at hb (Array.getElem?_eq_getElem hi) he hbd) (by have := backA_at hb (Array.getElem?_eq_getElem hi) he hbd; omega)
   rw [h0] at hmem
   cases hmem
theorem NewAt.onX {n q : Nat} {w0 : World} {u : Value} {w w' : World} (h : NewAt n w0 u w) (hb : BelowX q w w') : NewAt n w0 u w' := by
 obtain ⟨b, e, h1, h2, h3⟩ := h;refine ⟨b, e, h1, Nat.lt_of_lt_of_le h2 hb.size, ?_⟩;by_cases hq : b = q
 ·subst hq; exact hb.keep n h3
 ·intro j hj;obtain ⟨g1, g2⟩ := h3 j hj;have hbl := hb.block b h2 hq;exact ⟨by rw [World.cell?_of_block (a := ⟨b, 0 + j, none⟩) hbl]; exact g1, by rw [World.frozen?_of_block (a := ⟨b, 0 + j, none⟩) hbl]; exact g2⟩
def toldAtA (n : Nat) (w0 : World) (Vs : List ToldA) (i : Nat) : Value -> World -> Prop := match Vs[i]? with
 | none => fun _ _ => True
 | some t => t.holds n w0
theorem toldAtA_kept (n : Nat) (hn : 0 < n) (w0 : World) (Vs : List ToldA) (i : Nat) (v : Value) (w w' : World) (h : toldAtA n w0 Vs i v w) (hb : Below w.heap.size w w') : toldAtA n w0 Vs i v w' := by
 unfold toldAtA at *
 cases hi : Vs[i]? with
 | none => trivial
 | some t =>
  rw [hi] at h
  cases t with
  | is x => exact h
  | new => exact NewAt.on h hn hb
  | put => trivial
theorem toldAtA_keptX (n q : Nat) (w0 : World) (Vs : List ToldA) (i : Nat) (v : Value) (w w' : World) (h : toldAtA n w0 Vs i v w) (hb : BelowX q w w') : toldAtA n w0 Vs i v w' := by
 unfold toldAtA at *
 cases hi : Vs[i]? with
 | none => trivial
 | some t =>
  rw [hi] at h
  cases t with
  | is x => exact h
  | new => exact NewAt.onX h hb
  | put => trivial
def putAt (Vs : List ToldA) (i : Nat) : Bool := match Vs[i]? with
 | some .put => true
 | _ => false
structure EInvA (ops : Array Oper) (a0 : Act) (w0 : World) (n p st : Nat) (cs : List Value) (Vs : List ToldA) (l : Array Bool) (a : Act) (w : World) : Prop where
 inv : EInv ops a0 (fun w => Below w0.heap.size w0 w) (toldAtA n w0 Vs) l a w
 link : l.getD st false = true -> l.getD p false = true /\ ∀ op, ops[p]? = some op -> Filled n cs w0 (slotV op a) w
def StepsA (P : Program) (Q : Exit -> Act -> World -> Prop) (n p : Nat) (cs : List Value) (all : List Oper) (a0 : Act) (w0 : World) (Vs : List ToldA) : Nat -> List Oper -> Prop
  | _, [] => True
  | i, o :: r => (∀ (w : World) (vals : Nat -> Value), Below w0.heap.size w0 w -> (∀ j, (o.after.toList.any fun e => Region.binds .any e && e.on == j) = true -> toldAtA n w0 Vs j (vals j) w) ->
      ∀ a : Act, a = putAll all 0 vals a0 -> ∀ K : Act -> World -> Prop, (∀ v w', toldAtA n w0 Vs i (match o.dst with | none => undef | some _ => v) w' -> (if putAt Vs i = true then (o.after.toList.any fun e => Region.binds .any e && e.on == p) = true /\ ∃ b, vals p = .pointer (some ⟨b, 0, none⟩) /\ w0.heap.size <= b /\ b < w.heap.size /\ BelowX b w w' /\ w'.rangeAt b 0 cs else Below w.heap.size w w') -> K (a.put o.dst v) w') -> gwp P Q o vals a w K) /\ StepsA P Q n p cs all a0 w0 Vs (i + 1) r
theorem stepsA_get {n p : Nat} {cs : List Value} {all : List Oper} {a0 : Act} {w0 : World} {Vs : List ToldA} : ∀ {l : List Oper} {k i : Nat} {o : Oper}, StepsA P Q n p cs all a0 w0 Vs k l -> l[i]? = some o ->
  ∀ (w : World) (vals : Nat -> Value), Below w0.heap.size w0 w -> (∀ j, (o.after.toList.any fun e => Region.binds .any e && e.on == j) = true -> toldAtA n w0 Vs j (vals j) w) ->
   ∀ K : Act -> World -> Prop, (∀ v w', toldAtA n w0 Vs (k + i) (match o.dst with | none => undef | some _ => v) w' -> (if putAt Vs (k + i) = true then (o.after.toList.any fun e => Region.binds .any e && e.on == p) = true /\ ∃ b, vals p = .pointer (some ⟨b, 0, none⟩) /\ w0.heap.size <= b /\ b < w.heap.size /\ BelowX b w w' /\ w'.rangeAt b 0 cs else Below w.heap.size w w') -> K ((putAll all 0 vals a0).put o.dst v) w') -> gwp P Q o vals (putAll all 0 vals a0) w K
 | [], _, _, _, _, h => by simp at h
 | x :: r, k, 0, o, hs, h => by
  simp at h
  subst h;exact fun w vals h1 h2 => hs.1 w vals h1 h2 _ rfl
 | x :: r, k, i + 1, o, hs, h => by
  rw [List.getElem?_cons_succ] at h;have := stepsA_get hs.2 h;rw [show k + (i + 1) = k + 1 + i by omega];exact this
def onePut (st : Nat) (Vs : List ToldA) : Bool := (List.range Vs.length).all fun i => putAt Vs i == (i == st)
theorem onePut_at {st : Nat} {Vs : List ToldA} (h : onePut st Vs = true) {i : Nat} (hi : i < Vs.length) : putAt Vs i = (i == st) := by
 have := List.all_eq_true.1 h i (List.mem_range.2 hi);simpa using this
theorem wp_region_toldA {id : Nat} (p st n : Nat) (cs : List Value) {a0 : Act} {w0 : World} {l : List Oper} (Vs : List ToldA) (hn : 0 < n) (hm : P.follows .mixedOrders = true) (hb : ((backA l.toArray && (distB l.toArray && dstB l.toArray a0.tmps.size)) && guardB l) = true)
  (hput : (onePut st Vs && (decide (Vs.length = l.length) && (decide (p < l.length) && decide (p ≠ st)))) = true)
  (hstep : StepsA P Q n p cs l a0 w0 Vs 0 l)
  (hQ : ∀ (w : World) (vals : Nat -> Value), Below w0.heap.size w0 w -> (∀ j, j < l.length -> toldAtA n w0 Vs j (vals j) w) -> (st < l.length -> Filled n cs w0 (vals p) w) -> Q .normal (putAll l 0 vals a0) w) : (Code.region id l.toArray true).wp P Q a0 w0 := by
 rw [Bool.and_eq_true] at hb;obtain ⟨hbb, hgb⟩ := hb;have hbb' := hbb;rw [Bool.and_eq_true, Bool.and_eq_true] at hbb';obtain ⟨hb1, hb2, hb3⟩ := hbb';rw [Bool.and_eq_true, Bool.and_eq_true, Bool.and_eq_true, decide_eq_true_eq, decide_eq_true_eq, decide_eq_true_eq] at hput;obtain ⟨hone, hlen, hp, hpst⟩ := hput
 have hrep : ∀ i, (Array.replicate l.toArray.size false).getD i false = false := fun i => by
  simp only [Array.getD];split <;> simp
 have hval : ∀ (d : Array Bool) (a : Act) (w : World), EInv l.toArray a0 (fun w => Below w0.heap.size w0 w) (toldAtA n w0 Vs) d a w -> ∀ j, j < l.toArray.size -> d.getD j false = true -> toldAtA n w0 Vs j (valsOf l.toArray a j) w := by
  intro d a w h j hj hl;have := h.new j l.toArray[j] (Array.getElem?_eq_getElem hj) hl;unfold valsOf;rw [Array.getElem?_eq_getElem hj];exact this
 have hop : l.toArray[p]? = some l.toArray[p] := Array.getElem?_eq_getElem (by simpa using hp);refine wp_region_inv hm (EInvA l.toArray a0 w0 n p st cs Vs) ⟨⟨by simp, bR.drew, rfl, rfl, fun _ _ => rfl, fun i o _ hl => by rw [hrep] at hl; cases hl⟩, fun hl => by rw [hrep] at hl; cases hl⟩ (fun d a w h hr => ?_) ?_
 ·have hall := all_listedA hb1 h.inv.len hr
  have := hQ w (valsOf l.toArray a) h.inv.cls (fun j hj => hval d a w h.inv j (by simpa using hj) (hall j (by simpa using hj))) (fun hst => by
   have := (h.link (hall st (by simpa using hst))).2 _ hop;unfold valsOf;rw [hop];exact this)
  rw [show l = l.toArray.toList from rfl, putAll_of h.inv.size h.inv.defers h.inv.old] at this;exact this
 ·intro d a w i h hi;obtain ⟨hun, o, ho, hr⟩ := mem_ready.1 hi
  have hdep : ∀ j, (o.after.any fun e => Region.binds .any e && e.on == j) = true -> j < l.toArray.size /\ d.getD j false = true := fun j hj => by
   obtain ⟨e, he, h2⟩ := Array.any_eq_true'.1 hj;rw [Bool.and_eq_true, beq_iff_eq] at h2;have h3 := hr e he h2.1
   have hj2 : e.on < l.toArray.size := by
    have h5 := backA_at hb1 ho he h2.1;have := (Array.getElem?_eq_some_iff.1 ho).1;omega
   rw [<- h2.2];exact ⟨hj2, h3⟩
  have hol : l[i]? = some o := by simpa using ho
  have hil : i < l.length := (List.getElem?_eq_some_iff.1 hol).1;have hps := onePut_at hone (i := i) (by omega);have hidl : i < d.size := by rw [h.inv.len]; simpa using hil
  have hund : d.getD i false = false := by
   have h1 : d.getD i true = false := hun;simp only [Array.getD, hidl, dif_pos] at h1 |-;exact h1
  have hs := wpOp_of_gwp (Q := Q) (w := w) (K := fun a' w' => EInvA l.toArray a0 w0 n p st cs Vs (d.setIfInBounds i true) a' w') hb2 hb3 hol hgb (stepsA_get hstep hol w (valsOf l.toArray a) h.inv.cls (fun j hj => by
   have hj2 : (o.after.any fun e => Region.binds .any e && e.on == j) = true := by rw [<- Array.any_toList]; exact hj
   exact hval d a w h.inv j (hdep j hj2).1 (hdep j hj2).2) _ fun v w' h1 h2 => by
    rw [Nat.zero_add] at h1 h2;have hpa : putAll l 0 (valsOf l.toArray a) a0 = a := by rw [show l = l.toArray.toList from rfl]; exact putAll_of h.inv.size h.inv.defers h.inv.old
    rw [hpa];by_cases hst : i = st
    ·rw [if_pos (by rw [hps, hst]; simp)] at h2;obtain ⟨hdp, b, hvb, hb0, hbw, hX, hrg⟩ := h2;have hdp2 : (o.after.any fun e => Region.binds .any e && e.on == p) = true := by rw [<- Array.any_toList]; exact hdp
     refine ⟨einv_step hb2 hb3 h.inv ho (h.inv.cls.trans (hX.below hb0 h.inv.cls.size)) h1 (fun j u _ hu => toldAtA_keptX n b w0 Vs j u w w' hu hX), fun _ => ⟨?_, fun op hop' => ?_⟩⟩
     ·rw [getD_set_ne (by omega)];exact (hdep p hdp2).2
     ·rw [slot_put_other hb2 (by omega) ho hop'];have e1 : valsOf l.toArray a p = slotV op a := by unfold valsOf; rw [hop']
      exact ⟨b, by rw [<- e1]; exact hvb, hb0, Nat.lt_of_lt_of_le hbw hX.size, hrg⟩
    ·rw [if_neg (by rw [hps]; simp [hst])] at h2;refine ⟨einv_step hb2 hb3 h.inv ho (h.inv.cls.trans (h2.mono h.inv.cls.size)) h1 (fun j u _ hu => toldAtA_kept n hn w0 Vs j u w w' hu h2), fun hl => ?_⟩;rw [getD_set_ne hst] at hl;obtain ⟨g1, g2⟩ := h.link hl;have hip : i ≠ p := fun e => by rw [e] at hund; rw [hund] at g1; cases g1
     refine ⟨by rw [getD_set_ne hip]; exact g1, fun op hop' => ?_⟩;rw [slot_put_other hb2 hip ho hop'];exact (g2 op hop').on h2)
  have hpa : putAll l 0 (valsOf l.toArray a) a0 = a := by rw [show l = l.toArray.toList from rfl]; exact putAll_of h.inv.size h.inv.defers h.inv.old
  rw [hpa] at hs;exact hs
theorem toldA_at {n : Nat} {w0 : World} {Vs : List ToldA} {i : Nat} {v : Value} {w : World} {t : ToldA} (h : toldAtA n w0 Vs i v w) (ht : Vs[i]? = some t) : t.holds n w0 v w := by
 unfold toldAtA at h;rw [ht] at h;exact h
theorem tIA {n : Nat} {w0 : World} {Vs : List ToldA} {i : Nat} {u v : Value} {w : World} (h : toldAtA n w0 Vs i u w) (e : Vs[i]? = some (.is v)) : u = v := toldA_at h e
end
section
open Go.RowKit Ru Lay
attribute [local go_sem ↓] Go.wp_at_zero Go.wp_at_succ
theorem chainL_le {l : List Nt} {id : Int} : ∀ k : Nat, (chainL l id k).length <= k
 | 0 => Nat.le_refl _
 | k + 1 => by
  unfold chainL;rw [List.length_append];have := chainL_le (l := l) (id := id) k;have h2 : ((curF l id k).map Nt.nid).toList.length <= 1 := by cases curF l id k <;> simp
  omega
theorem there_grown {w w' : World} {b o n : Nat} {row : Option Nat} (h : w.there b o n) (hg : w.grownBy w' row) (hlt : b < w.heap.size) (hne : some b ≠ row) : w'.there b o n := fun j hj => by
 have hbk := hg.block b hlt hne;obtain ⟨h1, h2⟩ := h j hj;exact ⟨by rw [World.cell?_of_block (a := ⟨b, o + j, none⟩) hbk]; exact h1, (World.frozen?_of_block (a := ⟨b, o + j, none⟩) hbk).trans h2⟩
set_option maxHeartbeats 4000000 in
set_option maxRecDepth 100000 in
theorem refChain_any (d : Dv) (l : List Nt) (id : Int) (K : Nat) (w : World) (hl : NotesR w w.heap.size d.na d.nn l) (hn : d.nn <= 9223372036854775807) (hend : curF l id K = none) (hK : K <= d.tn + 1) (htn : d.tn <= 1000000) :
    Calls Tryz.prog 31 #[docV d, .int .i64 id] w fun e w' => ∃ v, e = .returned v /\ OwnI w' w.heap.size v (chainL l id K) /\ Below w.heap.size w w' := by
  have HG := hI fun (W : World) (hW : Below w.heap.size w W) (id : Int) => refGet_any d l id W (hl.on hW) hn
  have HEND := hI hend;clear hl hend;unfold docV at HG;unfold docV;obtain ⟨rid, name, len, day, sa, sn, sc, ta, tn, tc, na, nn, nc⟩ := d;simp only at HG hn hK htn |-;obtain ⟨W0, hW0, hz0, hB0, hK0⟩ := doc_cells w rid name len day sa ta na sn sc tn tc nn nc;have HB := hI hB0;have HK := hI hK0;have hg0 := hK0 W0 bR;obtain ⟨k0, k1, k2, k3, k4, k5, k6⟩ := range7 hg0;have HGG := hI (HG.out W0 HB.out id);unfold getV noteV at HGG;obtain ⟨y, hy⟩ : ∃ y, (getN l id).getD nt0 = y := ⟨_, rfl⟩;obtain ⟨bs, hbs⟩ : ∃ bs, (getN l id).isSome = bs := ⟨_, rfl⟩;have HY : Hid ((curF l id 0).getD nt0 = y /\ (curF l id 0).isSome = bs) := ⟨hy, hbs⟩;rw [hy, hbs] at HGG;clear hB0 hK0 hg0 hy hbs;go_enter Tryz.func31, Tryz.ntmps31
  go_upto_region 2 with fail
  (try rw [hW0])
  clear hW0;go_wp2_with fail
  refine HGG.out.mono ?_;rintro e w1 ⟨rfl, hb⟩;have HB1 := hI hb;have HR1 : Hid ((w1.alloc (.cells #[.int .i64 y.nid, .int .i64 y.tier, .int .i64 y.parent, .int .i64 y.at1, .int .i64 y.at2, .int .i64 y.rank, .string y.text] 58)).rangeAt w1.heap.size 0 (encN y)) := fun j v hv => by rw [Nat.zero_add, World.cell?_alloc_new, <- hv, <- List.getElem?_toArray]; rfl
  have HT1 : Hid (w1.heap.size < (w1.alloc (.cells #[.int .i64 y.nid, .int .i64 y.tier, .int .i64 y.parent, .int .i64 y.at1, .int .i64 y.at2, .int .i64 y.rank, .string y.text] 58)).heap.size) := by show _ < _; simp
  have HW1 : Hid (Below W0.heap.size W0 (w1.alloc (.cells #[.int .i64 y.nid, .int .i64 y.tier, .int .i64 y.parent, .int .i64 y.at1, .int .i64 y.at2, .int .i64 y.rank, .string y.text] 58))) := hb.alloc hb.size _;have hb1 := hb.size;clear hb HGG k0 k1 k2 k3 k4 k5 k6;go_wp2_with fail
  have HTH1 : Hid ((w1.alloc (.cells #[.int .i64 y.nid, .int .i64 y.tier, .int .i64 y.parent, .int .i64 y.at1, .int .i64 y.at2, .int .i64 y.rank, .string y.text] 58)).there w1.heap.size 0 7) := there_new w1 _ _;obtain ⟨b, hbq⟩ : ∃ b, w1.heap.size = b := ⟨_, rfl⟩;obtain ⟨w2, hw2⟩ : ∃ w2, w1.alloc (.cells #[.int .i64 y.nid, .int .i64 y.tier, .int .i64 y.parent, .int .i64 y.at1, .int .i64 y.at2, .int .i64 y.rank, .string y.text] 58) = w2 := ⟨_, rfl⟩;rw [hw2, hbq] at HR1 HT1 HTH1;rw [hw2] at HW1;rw [hbq] at hb1;(try rw [hw2])
  (try rw [hbq])
  clear hw2 hbq;go_loopw [5, 7, 8] (fun v5 v7 v8 wr => ∃ (k : Nat) (y : Nt) (bs : Bool), k <= K /\ v7 = .bool bs /\ v8 = .int .i64 k /\ Hid ((curF l id k).getD nt0 = y /\ (curF l id k).isSome = bs) /\ Hid (b < wr.heap.size) /\ Hid (wr.there b 0 7) /\ Hid (wr.rangeAt b 0 (encN y)) /\ Hid (OwnI wr W0.heap.size v5 (chainL l id k)) /\ Hid (some b ≠ v5.ownBlock) /\ Hid (Below W0.heap.size W0 wr)) (fun _ _ v8 _ => K - (intOf v8).toNat)
  case atStart => exact ⟨0, y, bs, Nat.zero_le _, rfl, rfl, HY, HT1, HTH1, HR1, OwnI.nil _ _, (fun h => by cases h), HW1⟩
  case round =>
    clear HY HT1 HTH1 HR1 HW1 HB1;obtain ⟨k, y, bs, hk, rfl, rfl, HY, HT, HTH, HR, HO, HNE, HB0⟩ := hrel;obtain ⟨w0, hw0⟩ : ∃ w0, wr = w0 := ⟨_, rfl⟩;rw [hw0] at HT HTH HR HO HB0 |-;clear hw0;have kt : w0.cell? ⟨w.heap.size, 5, none⟩ = some (.slice ta tn tc) := HK.out w0 HB0.out 5 _ rfl
    cases bs with
    | false =>
      have HN : Hid (chainL l id k = chainL l id K) := by
        have h1 := HY.out.2
        cases e : curF l id k with
        | some x => rw [e] at h1; cases h1
        | none =>
          have := chainL_stop e (K - k);rw [show k + (K - k) = K by omega] at this;exact this.symm
      by_cases hkt : (k : Int) <= (tn : Int)
      · go_wp2
        go_ret;exact ⟨_, rfl, own_base (by rw [<- HN.out]; exact HO.out) HB.out.size, HB.out.trans (HB0.out.mono HB.out.size)⟩
      · go_wp2
        go_ret;exact ⟨_, rfl, own_base (by rw [<- HN.out]; exact HO.out) HB.out.size, HB.out.trans (HB0.out.mono HB.out.size)⟩
    | true =>
      have HX : Hid (curF l id k = some y) := by
        have h1 := HY.out
        cases e : curF l id k with
        | none => rw [e] at h1; cases h1.2
        | some x => rw [e] at h1; rw [<- h1.1]; rfl
      have HLT : Hid (k < K) := by
        show k < K;rcases Nat.lt_or_ge k K with h | h
        · exact h
        · exfalso
          have := curF_none HEND.out (k - K);rw [show K + (k - K) = k by omega, HX.out] at this
          cases this
      have HLN : Hid ((chainL l id k).length = k) := chainL_len (by rw [HX.out]; rfl);have hll := HLN.out;have HNXL := hI (chainL_next HX.out);obtain ⟨ll, hlq⟩ : ∃ ll, chainL l id k = ll := ⟨_, rfl⟩;rw [hlq] at HO HNXL hll;have hlt := HLT.out;have hkt : (k : Int) <= (tn : Int) := by omega
      have hsz := HB0.out.size;have c0 : w0.cell? ⟨b, 0, none⟩ = some (.int .i64 y.nid) := HR.out 0 _ rfl;clear hlq
      go_upto_region 7 with (at_builtin; refine wpList_appN2 rfl (.tmp 25) (.tmp 28) 32 rfl W0.heap.size 3 1 8 (.int .i64 0) info_int rfl (by omega) Tryz.underlying32 rfl HO.out rfl rfl (by simp [Value.oneCell']) (by omega) (by omega) (by omega) ?_; rintro v7 w4 hown7 hb7 hg7 hat7
                             have HO4 : Hid (OwnI w4 W0.heap.size v7 (ll ++ [y.nid])) := own_i hown7;have HB4 : Hid (Below W0.heap.size W0 w4) := HB0.out.trans hb7;have HT4 : Hid (w4.there b 0 7) := there_grown (there_grown HTH.out (World.grownBy_alloc w0 _ none) HT.out (by simp)) hg7 (by have := HT.out; simp; omega) HNE.out;have HNE4 : Hid (some b ≠ v7.ownBlock) := (by rcases hat7 with e | e; rw [e]; exact HNE.out; rw [e]; intro h; injection h with h; have := HT.out; simp at h; omega);have hs4 : b < w4.heap.size := (by have := HT.out; have h2 := hg7.size; simp at h2; omega);have HR4 : Hid (w4.rangeAt b 0 (encN y)) := range_grown (range_grown HR.out (World.grownBy_alloc w0 _ none) (by simp)) hg7 HNE.out;clear hown7 hb7 hg7 hat7)
      clear c0 HO HR HNE HTH kt;obtain ⟨A7, c7, hv7, _, _, _⟩ := OwnI.form HO4.out;have hl7 : (ll ++ [y.nid]).length = k + 1 := by rw [List.length_append, hll]; rfl
      rw [hl7] at hv7;subst hv7;have g4 := HR4.out;obtain ⟨q0, q1, q2, q3, q4, q5, q6⟩ := range7 g4;clear g4;have HFR : Hid (some b ≠ (Value.slice A7 (k + 1) c7).ownBlock) := HNE4.out;have hg5 := HK.out w4 HB4.out;obtain ⟨k0, k1, k2, k3, k4, k5, k6⟩ := range7 hg5;have HGP := hI (HG.out w4 (HB.out.trans (HB4.out.mono HB.out.size)) y.parent);unfold getV noteV at HGP;have HCN := hI (curF_next HX.out);obtain ⟨z, hzq⟩ : ∃ z, (getN l y.parent).getD nt0 = z := ⟨_, rfl⟩;obtain ⟨bz, hbz⟩ : ∃ bz, (getN l y.parent).isSome = bz := ⟨_, rfl⟩;have HYN : Hid ((curF l id (k + 1)).getD nt0 = z /\ (curF l id (k + 1)).isSome = bz) := by rw [HCN.out]; exact ⟨hzq, hbz⟩
      rw [hzq, hbz] at HGP;clear hg5 hzq hbz HCN;go_wp2_with fail
      refine HGP.out.mono ?_;rintro e w6 ⟨rfl, hb6⟩;have HT6 : Hid (w6.there b 0 7) := there_below hb6 (by omega) HT4.out;have HO6 := hI (HO4.out.on hb6);have HB6 : Hid (Below W0.heap.size W0 w6) := HB4.out.trans (hb6.mono HB4.out.size);have hz6 : b < w6.heap.size := by have := hb6.size; omega
      clear hb6 k0 k1 k2 k3 k4 k5 k6 q0 q1 q2 q3 q4 q5 q6 HGP HO4 HT4 HR4 HNE4;have hX := hI (BelowX.set w6 b (#[.int .i64 z.nid, .int .i64 z.tier, .int .i64 z.parent, .int .i64 z.at1, .int .i64 z.at2, .int .i64 z.rank, .string z.text] : Array Value).toList);have hRS := hI (World.rangeAt_setCells_same w6 b 0 (#[.int .i64 z.nid, .int .i64 z.tier, .int .i64 z.parent, .int .i64 z.at1, .int .i64 z.at2, .int .i64 z.rank, .string z.text] : Array Value).toList HT6.out);obtain ⟨wS, hwS⟩ : ∃ wS, w6.setCells b 0 (#[.int .i64 z.nid, .int .i64 z.tier, .int .i64 z.parent, .int .i64 z.at1, .int .i64 z.at2, .int .i64 z.rank, .string z.text] : Array Value).toList = wS := ⟨_, rfl⟩;rw [hwS] at hX hRS;have HBS : Hid (Below W0.heap.size W0 wS) := HB6.out.trans (hX.out.below hb1 HB6.out.size)
      have HOS : Hid (OwnI wS W0.heap.size (.slice A7 (k + 1) c7) (ll ++ [y.nid])) := by
        refine World.ownsRow.kept (row := some b) HO6.out ⟨hX.out.os, hX.out.tape, hX.out.output, hX.out.size, fun j hj hne => hX.out.block j hj fun e => hne (by rw [e])⟩ ?_;exact .inr fun e => HFR.out e.symm
      have HTH' : Hid (wS.there b 0 7) := hX.out.keep 7 HT6.out;have HTS : Hid (b < wS.heap.size) := by have := hX.out.size; show _ < _; omega
      go_wp2_with (refine wpList_store_mid rfl 58 (.tmp 6) (.tmp 35) rfl b 0 #[.int .i64 z.nid, .int .i64 z.tier, .int .i64 z.parent, .int .i64 z.at1, .int .i64 z.at2, .int .i64 z.rank, .string z.text] rfl rfl HT6.out (by kernel_rfl) (by simp [Value.oneCell']) ?_; rw [hwS])
      go_roundw
      case rel => exact ⟨k + 1, z, bz, HLT.out, rfl, by go_num, HYN, HTS, HTH', hRS, (by rw [HNXL.out]; exact HOS), HFR, HBS⟩
      case measure => have := HLT.out; simp [intOf]; omega
set_option maxHeartbeats 2000000 in
theorem refRole_any (A : Option Addr) (n c : Nat) (T : List Ti) (r : Int) (w : World) (hT : TiersR w w.heap.size A n T) (hn : n <= 9223372036854775807) :
  Calls Tryz.prog 28 #[.slice A n c, .int .i64 r] w fun e w' => e = .returned (.int .i64 (roleT T r)) /\ Below w.heap.size w w' := by
 have HT := hI hT;have HTN := hI hT.len;clear hT;go_enter Tryz.func28, Tryz.ntmps28
 go_wp2_with fail
 go_loopw [5] (fun v5 wr => ∃ i : Nat, i <= n /\ v5 = .int .i64 i /\ Hid (roleT T r = roleF r (T.drop i) i) /\ Hid (Below w.heap.size w wr)) (fun v5 _ => n - (intOf v5).toNat)
 case atStart => exact ⟨0, Nat.zero_le _, rfl, hI rfl, Below.refl _ _⟩
 case round =>
  obtain ⟨i, hi, rfl, HR, HB⟩ := hrel;obtain ⟨w0, hw0⟩ : ∃ w0, wr = w0 := ⟨_, rfl⟩;rw [hw0] at HB |-;clear hw0;by_cases hlt : i < n
  ·have hiz : (i : Int) < (n : Int) := by omega
   have hiA : (0 : Int) <= (i : Int) := by omega
   obtain ⟨ad, x, rfl, hab, hx, _, hcells⟩ := HT.out.at_ hlt;obtain ⟨q0, q1, q2, q3⟩ := hcells w0 HB.out;have HLT := hI hlt;have HST := hI (roleF_step (r := r) hx);obtain ⟨xr, hxr⟩ : ∃ xr, x.role = xr := ⟨_, rfl⟩;rw [hxr] at q2 HST;clear hx hcells q0 q1 q3 hxr;by_cases r0 : r = 0
   ·have b0 : (r != 0) = false := by rw [bne_eq_false_iff_eq]; exact r0
    have HN : Hid (roleT T r = roleF r (T.drop (i + 1)) (i + 1)) := by
     have h := HR.out;rw [HST.out, if_neg fun h => h.1 r0] at h;exact h
    clear HST HR r0;go_wp2;go_roundw
    case rel => exact ⟨i + 1, HLT.out, by go_num, HN, HB⟩
    case measure => have := HLT.out; simp [intOf]; omega
   ·have b0 : (r != 0) = true := bne_iff_ne.2 r0;by_cases e : xr = r
    ·have b1 : (xr == r) = true := beq_iff_eq.2 e
     have HN : Hid (roleT T r = (i : Int)) := by
      have h := HR.out;rw [HST.out, if_pos ⟨r0, e⟩] at h;exact h
     clear HST HR r0 e;go_wp2;go_ret;exact ⟨by rw [HN.out]; rfl, HB.out⟩
    ·have b1 : (xr == r) = false := beq_eq_false_iff_ne.2 e
     have HN : Hid (roleT T r = roleF r (T.drop (i + 1)) (i + 1)) := by
      have h := HR.out;rw [HST.out, if_neg fun h => e h.2] at h;exact h
     clear HST HR r0 e;go_wp2;go_roundw
     case rel => exact ⟨i + 1, HLT.out, by go_num, HN, HB⟩
     case measure => have := HLT.out; simp [intOf]; omega
  ·obtain rfl : n = i := by omega
   have hiz : ¬ (n : Int) < (n : Int) := by omega
   have HN : Hid (roleT T r = -1) := by
    have h := HR.out;rw [List.drop_of_length_le (by rw [HTN.out]; exact Nat.le_refl _)] at h;exact h
   go_wp2;go_ret;exact ⟨by rw [HN.out]; rfl, HB.out⟩
set_option maxHeartbeats 2000000 in
theorem refHas_any (A : Option Addr) (n c : Nat) (l : List Int) (x : Int) (w : World) (hl : IR w w.heap.size A n l) (hn : n <= 9223372036854775807) :
  Calls Tryz.prog 30 #[.slice A n c, .int .i64 x] w fun e w' => e = .returned (.bool (decide (x ∈ l))) /\ w = w' := by
 have HL := hI hl;have HLN := hI hl.len;clear hl;go_enter Tryz.func30, Tryz.ntmps30
 go_wp2_with fail
 go_loop [5, 8] (fun v5 v8 => ∃ i : Nat, i <= n /\ v8 = .int .i64 i /\ Hid (x ∉ l.take i)) (fun _ v8 => n - (intOf v8).toNat)
 case atStart => exact ⟨0, Nat.zero_le _, rfl, hI (by simp)⟩
 case round =>
  obtain ⟨i, hi, rfl, HNO⟩ := hrel;by_cases hlt : i < n
  ·have hiz : (i : Int) < (n : Int) := by omega
   have hiA : (0 : Int) <= (i : Int) := by omega
   obtain ⟨ad, y, rfl, hab, hy, hc⟩ := HL.out.at_ hlt;have HY := hI hy;have HLT := hI hlt;clear hy;by_cases e : y = x
   ·have b1 : (y == x) = true := beq_iff_eq.2 e;have HM : Hid (decide (x ∈ l) = true) := decide_eq_true (by rw [<- e]; exact List.mem_of_getElem? HY.out);clear e;go_wp2;go_ret;exact ⟨by rw [HM.out]; rfl, rfl⟩
   ·have b1 : (y == x) = false := beq_eq_false_iff_ne.2 e
    have HM : Hid (x ∉ l.take (i + 1)) := by
     have h := HY.out;have h2 := HNO.out;show ¬ _;rw [List.take_add_one, h];intro hm;rcases List.mem_append.1 hm with hm | hm
     ·exact h2 hm
     ·simp at hm; exact e hm.symm
    clear e;go_wp2;go_round
    case rel => exact ⟨i + 1, HLT.out, by go_num, HM⟩
    case measure => have := HLT.out; simp [intOf]; omega
  ·obtain rfl : n = i := by omega
   have hiz : ¬ (n : Int) < (n : Int) := by omega
   have HM : Hid (decide (x ∈ l) = false) := decide_eq_false (by
    have h := HNO.out;rw [List.take_of_length_le (by rw [HLN.out]; exact Nat.le_refl _)] at h;exact h)
   go_wp2;go_ret;exact ⟨by rw [HM.out]; rfl, rfl⟩
end
section
open Go.RowKit Ru Lay Srt Col
theorem docOk_label {T : List Ti} {l : List Nt} (h : DocOk T l) {t : Int} (h0 : 0 <= t) (h1 : t < (T.length : Int)) (hk : (tierT T t).kind = 4) (id : Int) : (sibs T.length l id t).length <= 1 := by
 cases e : sibs T.length l id t with
 | nil => exact Nat.zero_le _
 | cons x s =>
  have hx : x ∈ sibs T.length l id t := by rw [e]; exact List.mem_cons_self
  have hx2 := List.mem_filter.1 hx;have hd := of_decide_eq_true hx2.2;have hs := h.sibs t.toNat (by omega) x hx2.1 (by omega);rw [show ((t.toNat : Nat) : Int) = t by omega] at hs;have h4 := hs.2.2 hk
  have heq : sibF l t x.parent = sibs T.length l id t := by
   unfold sibF sibs;refine List.filter_congr fun y _ => ?_
   rw [hd.2.1];by_cases e1 : y.tier = t /\ y.parent = id
   ·rw [show (decide (y.tier = t /\ y.parent = id /\ 0 <= t /\ t < (T.length : Int))) = true from decide_eq_true ⟨e1.1, e1.2, h0, h1⟩];simp [e1.1, e1.2]
   ·rw [show (decide (y.tier = t /\ y.parent = id /\ 0 <= t /\ t < (T.length : Int))) = false from decide_eq_false fun g => e1 ⟨g.1, g.2.1⟩];simp
    intro g;exact fun g2 => e1 ⟨g, g2⟩
  rw [heq, e] at h4;exact h4
end
section
open Go.RowKit Ru Lay
attribute [local go_sem ↓] Go.wp_at_zero Go.wp_at_succ
set_option maxHeartbeats 2000000 in
theorem role32_any (d : Dv) (T : List Ti) (r : Int) (w : World) (hT : TiersR w w.heap.size d.ta d.tn T) (htn : d.tn <= 1000000) :
  Calls Tryz.prog 68 #[docV d, .int .i64 r] w fun e w' => e = .returned (.int .i64 (roleT T r)) /\ Below w.heap.size w w' := by
 have HRO := hI fun (W : World) (hW : Below w.heap.size w W) => refRole_any d.ta d.tn d.tc T r W (hT.on hW) (by omega)
 clear hT;unfold docV;obtain ⟨rid, name, len, day, sa, sn, sc, ta, tn, tc, na, nn, nc⟩ := d;simp only at HRO htn |-;obtain ⟨W0, hW0, hz0, hB0, hK0⟩ := doc_cells w rid name len day sa ta na sn sc tn tc nn nc;have HB := hI hB0;have k5 : W0.cell? ⟨w.heap.size, 5, none⟩ = some (.slice ta tn tc) := hK0 W0 bR 5 _ rfl;have HRR := hI (HRO.out W0 HB.out);clear hB0 hK0;go_enter Tryz.func68, Tryz.ntmps68
 go_upto_region 1 with fail
 (try rw [hW0])
 clear hW0;go_wp2_with fail
 refine HRR.out.mono ?_;rintro e w1 ⟨rfl, hb⟩;have HB1 := hI hb;clear hb k5;go_wp2;go_ret;exact ⟨rfl, HB.out.trans (HB1.out.mono HB.out.size)⟩
set_option maxHeartbeats 2000000 in
set_option maxRecDepth 100000 in
theorem text32_any (d : Dv) (l : List Nt) (id : Int) (w : World) (hl : NotesR w w.heap.size d.na d.nn l) (hn : d.nn <= 9223372036854775807) :
  Calls Tryz.prog 69 #[docV d, .int .i64 id] w fun e w' => e = .returned (.string (textN l id)) /\ Below w.heap.size w w' := by
 have HG := hI fun (W : World) (hW : Below w.heap.size w W) => refGet_any d l id W (hl.on hW) hn
 clear hl;unfold docV at HG;unfold docV;obtain ⟨rid, name, len, day, sa, sn, sc, ta, tn, tc, na, nn, nc⟩ := d;simp only at HG hn |-;obtain ⟨W0, hW0, hz0, hB0, hK0⟩ := doc_cells w rid name len day sa ta na sn sc tn tc nn nc;have HB := hI hB0;have HK := hI hK0;clear hB0 hK0;obtain ⟨k0, k1, k2, k3, k4, k5, k6⟩ := range7 (HK.out W0 (Below.refl _ _));have HGG := hI (HG.out W0 HB.out);unfold getV noteV at HGG;unfold textN;obtain ⟨y, hy⟩ : ∃ y, (getN l id).getD nt0 = y := ⟨_, rfl⟩;obtain ⟨bs, hbs⟩ : ∃ bs, (getN l id).isSome = bs := ⟨_, rfl⟩;rw [hy, hbs] at HGG;rw [hy];clear hy hbs HG;go_enter Tryz.func69, Tryz.ntmps69
 go_upto_region 1 with fail
 (try rw [hW0])
 clear hW0;go_wp2_with fail
 refine HGG.out.mono ?_;rintro e w1 ⟨rfl, hb⟩;have HB1 := hI (hb.alloc hb.size (.cells #[.int .i64 y.nid, .int .i64 y.tier, .int .i64 y.parent, .int .i64 y.at1, .int .i64 y.at2, .int .i64 y.rank, .string y.text] 58));clear hb k0 k1 k2 k3 k4 k5 k6 HGG;go_wp2;go_ret;exact ⟨rfl, HB.out.trans (HB1.out.mono HB.out.size)⟩
set_option maxHeartbeats 2000000 in
set_option maxRecDepth 100000 in
theorem ready32_any (d : Dv) (T : List Ti) (w : World) (hT : TiersR w w.heap.size d.ta d.tn T) (htn : d.tn <= 1000000) :
  Calls Tryz.prog 66 #[docV d] w fun e w' => e = .returned (.bool (readyB T)) /\ Below w.heap.size w w' := by
 have HR := hI fun (W : World) (hW : Below w.heap.size w W) (r : Int) => role32_any d T r W (hT.on hW) htn
 clear hT;unfold docV at HR;unfold docV;obtain ⟨rid, name, len, day, sa, sn, sc, ta, tn, tc, na, nn, nc⟩ := d;simp only at HR htn |-;obtain ⟨W0, hW0, hz0, hB0, hK0⟩ := doc_cells w rid name len day sa ta na sn sc tn tc nn nc;have HB := hI hB0;have HK := hI hK0;clear hB0 hK0;have R2 := hI fun W hW => HR.out W hW 2
 have R3 := hI fun W hW => HR.out W hW 3
 have R4 := hI fun W hW => HR.out W hW 4
 unfold readyB;obtain ⟨a2, h2⟩ : ∃ a, roleT T 2 = a := ⟨_, rfl⟩;obtain ⟨a3, h3⟩ : ∃ a, roleT T 3 = a := ⟨_, rfl⟩;obtain ⟨a4, h4⟩ : ∃ a, roleT T 4 = a := ⟨_, rfl⟩;rw [h2] at R2;rw [h3] at R3;rw [h4] at R4;rw [h2, h3, h4];clear h2 h3 h4 HR;obtain ⟨k0, k1, k2, k3, k4, k5, k6⟩ := range7 (HK.out W0 (Below.refl _ _));have C2 := hI (R2.out W0 HB.out);go_enter Tryz.func66, Tryz.ntmps66
 go_upto_region 1 with fail
 (try rw [hW0])
 clear hW0;go_wp2_with fail
 refine C2.out.mono ?_;rintro e w1 ⟨rfl, hb1⟩;have HB1 := hI hb1;clear hb1 k0 k1 k2 k3 k4 k5 k6 C2 R2;by_cases g2 : 0 <= a2
 ·have c2 : decide (a2 ≥ 0) = true := decide_eq_true g2;have c2' : decide (0 <= a2) = true := decide_eq_true g2;obtain ⟨k0, k1, k2, k3, k4, k5, k6⟩ := range7 (HK.out w1 HB1.out);have C3 := hI (R3.out w1 (HB.out.trans (HB1.out.mono HB.out.size)));clear g2;go_wp2_with fail
  refine C3.out.mono ?_;rintro e w2 ⟨rfl, hb2⟩;have HB2 := hI (HB1.out.trans (hb2.mono HB1.out.size));clear hb2 k0 k1 k2 k3 k4 k5 k6 C3 R3;by_cases g3 : 0 <= a3
  ·have c3 : decide (a3 ≥ 0) = true := decide_eq_true g3;have c3' : decide (0 <= a3) = true := decide_eq_true g3;obtain ⟨k0, k1, k2, k3, k4, k5, k6⟩ := range7 (HK.out w2 HB2.out);have C4 := hI (R4.out w2 (HB.out.trans (HB2.out.mono HB.out.size)));clear g3;go_wp2_with fail
   refine C4.out.mono ?_;rintro e w3 ⟨rfl, hb3⟩;have HB3 := hI (HB2.out.trans (hb3.mono HB2.out.size));clear hb3 k0 k1 k2 k3 k4 k5 k6 C4 R4;go_wp2;go_ret;exact ⟨by simp [c2', c3'], HB.out.trans (HB3.out.mono HB.out.size)⟩
  ·have c3 : decide (a3 ≥ 0) = false := decide_eq_false g3;have c3' : decide (0 <= a3) = false := decide_eq_false g3;clear g3;go_wp2;go_ret;exact ⟨by simp [c2', c3'], HB.out.trans (HB2.out.mono HB.out.size)⟩
 ·have c2 : decide (a2 ≥ 0) = false := decide_eq_false g2;have c2' : decide (0 <= a2) = false := decide_eq_false g2;clear g2;go_wp2;go_ret;exact ⟨by simp [c2'], HB.out.trans (HB1.out.mono HB.out.size)⟩
set_option maxHeartbeats 4000000 in
set_option maxRecDepth 100000 in
theorem isWord_any (d : Dv) (T : List Ti) (l : List Nt) (id : Int) (w : World) (hT : TiersR w w.heap.size d.ta d.tn T) (hl : NotesR w w.heap.size d.na d.nn l) (hn : d.nn <= 9223372036854775807) (htn : d.tn <= 1000000) :
  Calls Tryz.prog 67 #[docV d, .int .i64 id] w fun e w' => e = .returned (.bool (wordB T l id)) /\ Below w.heap.size w w' := by
 have HG := hI fun (W : World) (hW : Below w.heap.size w W) => refGet_any d l id W (hl.on hW) hn
 have HRR := hI fun (W : World) (hW : Below w.heap.size w W) => role32_any d T 2 W (hT.on hW) htn
 clear hl hT;unfold docV at HG HRR;unfold docV;obtain ⟨rid, name, len, day, sa, sn, sc, ta, tn, tc, na, nn, nc⟩ := d;simp only at HG HRR hn htn |-;obtain ⟨W0, hW0, hz0, hB0, hK0⟩ := doc_cells w rid name len day sa ta na sn sc tn tc nn nc;have HB := hI hB0;have HK := hI hK0;clear hB0 hK0;obtain ⟨k0, k1, k2, k3, k4, k5, k6⟩ := range7 (HK.out W0 (Below.refl _ _));have HGG := hI (HG.out W0 HB.out);unfold getV noteV at HGG;unfold wordB;obtain ⟨y, hy⟩ : ∃ y, (getN l id).getD nt0 = y := ⟨_, rfl⟩;obtain ⟨bs, hbs⟩ : ∃ bs, (getN l id).isSome = bs := ⟨_, rfl⟩;obtain ⟨rt, hrt⟩ : ∃ rt, roleT T 2 = rt := ⟨_, rfl⟩;rw [hy, hbs] at HGG;rw [hrt] at HRR;rw [hy, hbs, hrt];clear hy hbs hrt HG;go_enter Tryz.func67, Tryz.ntmps67
 go_upto_region 1 with fail
 (try rw [hW0])
 clear hW0;go_wp2_with fail
 refine HGG.out.mono ?_;rintro e w1 ⟨rfl, hb⟩;have HB1 := hI hb;obtain ⟨b, hbq⟩ : ∃ b, w1.heap.size = b := ⟨_, rfl⟩;obtain ⟨w2, hw2⟩ : ∃ w2, w1.alloc (.cells #[.int .i64 y.nid, .int .i64 y.tier, .int .i64 y.parent, .int .i64 y.at1, .int .i64 y.at2, .int .i64 y.rank, .string y.text] 58) = w2 := ⟨_, rfl⟩;have HB2 : Hid (Below W0.heap.size W0 w2) := by rw [<- hw2]; exact hb.alloc hb.size _
 have HY : Hid (∀ W, Below w2.heap.size w2 W -> W.cell? ⟨b, 1, none⟩ = some (.int .i64 y.tier)) := fun W hW => by
  rw [hW.cell (p := ⟨b, 1, none⟩) (by rw [<- hw2, <- hbq]; simp), <- hw2, <- hbq, World.cell?_alloc_new]; rfl
 have HR := hI fun W (hW : Below w2.heap.size w2 W) => HRR.out W (HB.out.trans ((HB2.out.trans (hW.mono HB2.out.size)).mono HB.out.size))
 clear hb k0 k1 k2 k3 k4 k5 k6 HGG HRR;go_upto_region 2 with fail
 (try rw [hw2])
 (try rw [hbq])
 clear hw2 hbq
 cases bs with
 | true =>
  refine wp_region_told [Told.is (.bool true), Told.is (.bool true), Told.is (.pointer (some ⟨b, 1, none⟩)), Told.is (.int .i64 y.tier), Told.is (.agg #[.int .i64 rid, .string name, .int .i64 len, .int .i64 day, .slice sa sn sc, .slice ta tn tc, .slice na nn nc]), Told.is (.int .i64 rt), Told.is (.bool (y.tier == rt)), Told.is (.bool (y.tier == rt)), Told.is (.bool (y.tier == rt))] (by kernel_rfl) (by kernel_rfl) ?_ ?_
  ·refine And.intro (fun w4 vals hB hd K hK => ?_) ?_
   ·clear hd;simp only [putAll, Act.put, pS] at hK |-;refine gwp_none rfl ?_;go_simp;exact hK _ _ rfl bR
   refine And.intro (fun w4 vals hB hd K hK => ?_) ?_
   ·have e0 := tI (hd 0 rfl) rfl;clear hd;simp only [putAll, Act.put, pS] at hK |-;simp only [e0] at hK |-;clear e0;refine gwp_none rfl ?_;go_simp;exact hK _ _ rfl bR
   refine And.intro (fun w4 vals hB hd K hK => ?_) ?_
   ·have g1 := tI (hd 1 rfl) rfl;clear hd;simp only [putAll, Act.put, pS] at hK |-;refine gwp_some rfl g1 ?_;clear g1;go_simp;exact hK _ _ rfl bR
   refine And.intro (fun w4 vals hB hd K hK => ?_) ?_
   ·have e2 := tI (hd 2 rfl) rfl;have g1 := tI (hd 1 rfl) rfl;clear hd;simp only [putAll, Act.put, pS] at hK |-;simp only [e2] at hK |-;clear e2;refine gwp_some rfl g1 ?_;clear g1;have c1 : w4.cell? ⟨b, 1, none⟩ = some (.int .i64 y.tier) := HY.out w4 hB;go_simp;exact hK _ _ rfl bR
   refine And.intro (fun w4 vals hB hd K hK => ?_) ?_
   ·have g1 := tI (hd 1 rfl) rfl;clear hd;simp only [putAll, Act.put, pS] at hK |-;refine gwp_some rfl g1 ?_;clear g1;obtain ⟨k0, k1, k2, k3, k4, k5, k6⟩ := range7 (HK.out w4 (HB2.out.trans (hB.mono HB2.out.size)));go_simp;exact hK _ _ rfl bR
   refine And.intro (fun w4 vals hB hd K hK => ?_) ?_
   ·have e4 := tI (hd 4 rfl) rfl;have g1 := tI (hd 1 rfl) rfl;clear hd;simp only [putAll, Act.put, pS] at hK |-;simp only [e4] at hK |-;clear e4;refine gwp_some rfl g1 ?_;clear g1;go_simp;refine (HR.out w4 hB).mono ?_;rintro e w5 ⟨rfl, hb⟩;exact hK _ _ rfl hb
   refine And.intro (fun w4 vals hB hd K hK => ?_) ?_
   ·have e3 := tI (hd 3 rfl) rfl;have e5 := tI (hd 5 rfl) rfl;have g1 := tI (hd 1 rfl) rfl;clear hd;simp only [putAll, Act.put, pS] at hK |-;simp only [e3, e5] at hK |-;clear e3 e5;refine gwp_some rfl g1 ?_;clear g1;go_simp;exact hK _ _ rfl bR
   refine And.intro (fun w4 vals hB hd K hK => ?_) ?_
   ·have e1 := tI (hd 1 rfl) rfl;have e6 := tI (hd 6 rfl) rfl;clear hd;simp only [putAll, Act.put, pS] at hK |-;simp only [e1, e6] at hK |-;clear e1 e6;refine gwp_none rfl ?_;go_simp;exact hK _ _ rfl bR
   refine And.intro (fun w4 vals hB hd K hK => ?_) ?_
   ·have e7 := tI (hd 7 rfl) rfl;clear hd;simp only [putAll, Act.put, pS] at hK |-;simp only [e7] at hK |-;clear e7;refine gwp_none rfl ?_;go_simp;exact hK _ _ rfl bR
   exact trivial
  ·intro w4 vals hB hd;have e8 := tI (hd 8 (by decide)) rfl;clear hd;simp only [putAll, Act.put, pS];simp only [e8];clear e8;go_wp2;go_ret;exact ⟨by simp, HB.out.trans ((HB2.out.trans (hB.mono HB2.out.size)).mono HB.out.size)⟩
 | false =>
  refine wp_region_told [Told.is (.bool false), Told.is (.bool false), Told.is (undef), Told.is (undef), Told.is (undef), Told.is (undef), Told.is (undef), Told.is (.bool false), Told.is (.bool false)] (by kernel_rfl) (by kernel_rfl) ?_ ?_
  ·refine And.intro (fun w4 vals hB hd K hK => ?_) ?_
   ·clear hd;simp only [putAll, Act.put, pS] at hK |-;refine gwp_none rfl ?_;go_simp;exact hK _ _ rfl bR
   refine And.intro (fun w4 vals hB hd K hK => ?_) ?_
   ·have e0 := tI (hd 0 rfl) rfl;clear hd;simp only [putAll, Act.put, pS] at hK |-;simp only [e0] at hK |-;clear e0;refine gwp_none rfl ?_;go_simp;exact hK _ _ rfl bR
   refine And.intro (fun w4 vals hB hd K hK => ?_) ?_
   ·have g1 := tI (hd 1 rfl) rfl;clear hd;simp only [putAll, Act.put, pS] at hK |-;refine gwp_skip rfl g1 ?_;simp only [Act.put, pS];exact hK _ _ rfl bR
   refine And.intro (fun w4 vals hB hd K hK => ?_) ?_
   ·have e2 := tI (hd 2 rfl) rfl;have g1 := tI (hd 1 rfl) rfl;clear hd;simp only [putAll, Act.put, pS] at hK |-;simp only [e2] at hK |-;clear e2;refine gwp_skip rfl g1 ?_;simp only [Act.put, pS];exact hK _ _ rfl bR
   refine And.intro (fun w4 vals hB hd K hK => ?_) ?_
   ·have g1 := tI (hd 1 rfl) rfl;clear hd;simp only [putAll, Act.put, pS] at hK |-;refine gwp_skip rfl g1 ?_;simp only [Act.put, pS];exact hK _ _ rfl bR
   refine And.intro (fun w4 vals hB hd K hK => ?_) ?_
   ·have e4 := tI (hd 4 rfl) rfl;have g1 := tI (hd 1 rfl) rfl;clear hd;simp only [putAll, Act.put, pS] at hK |-;simp only [e4] at hK |-;clear e4;refine gwp_skip rfl g1 ?_;simp only [Act.put, pS];exact hK _ _ rfl bR
   refine And.intro (fun w4 vals hB hd K hK => ?_) ?_
   ·have e3 := tI (hd 3 rfl) rfl;have e5 := tI (hd 5 rfl) rfl;have g1 := tI (hd 1 rfl) rfl;clear hd;simp only [putAll, Act.put, pS] at hK |-;simp only [e3, e5] at hK |-;clear e3 e5;refine gwp_skip rfl g1 ?_;simp only [Act.put, pS];exact hK _ _ rfl bR
   refine And.intro (fun w4 vals hB hd K hK => ?_) ?_
   ·have e1 := tI (hd 1 rfl) rfl;have e6 := tI (hd 6 rfl) rfl;clear hd;simp only [putAll, Act.put, pS] at hK |-;simp only [e1, e6] at hK |-;clear e1 e6;refine gwp_none rfl ?_;go_simp;exact hK _ _ rfl bR
   refine And.intro (fun w4 vals hB hd K hK => ?_) ?_
   ·have e7 := tI (hd 7 rfl) rfl;clear hd;simp only [putAll, Act.put, pS] at hK |-;simp only [e7] at hK |-;clear e7;refine gwp_none rfl ?_;go_simp;exact hK _ _ rfl bR
   exact trivial
  ·intro w4 vals hB hd;have e8 := tI (hd 8 (by decide)) rfl;clear hd;simp only [putAll, Act.put, pS];simp only [e8];clear e8;go_wp2;go_ret;exact ⟨by simp, HB.out.trans ((HB2.out.trans (hB.mono HB2.out.size)).mono HB.out.size)⟩
end
section
open Go.RowKit Ru Lay Srt Col
theorem joinD_one (x : ByteArray) : joinD [x] = x := by
 unfold joinD;rw [List.map_cons, List.map_nil, Lib.join_one]
theorem joinD_next {l : List ByteArray} {i : Nat} {x : ByteArray} (h : l[i]? = some x) (h0 : 0 < i) : joinD (l.take (i + 1)) = joinD (l.take i) ++ ⟨#[45]⟩ ++ x := by
 cases l with
 | nil => simp at h
 | cons a r =>
  obtain ⟨j, rfl⟩ : ∃ j, i = j + 1 := ⟨i - 1, by omega⟩;rw [List.getElem?_cons_succ] at h;apply ByteArray.ext
  unfold joinD;rw [List.take_succ_cons, List.take_succ_cons, List.map_cons, List.map_cons, Lib.join_cons, Lib.join_cons, List.map_take, List.map_take, Lib.joinTail_take_succ [45] (r.map (·.data.toList)) j x.data.toList (by rw [List.getElem?_map, h]; rfl), ByteArray.data_append, ByteArray.data_append];apply Array.ext'
  simp
theorem joinD_first {l : List ByteArray} {x : ByteArray} (h : l[0]? = some x) : joinD (l.take 1) = x := by
 cases l with
 | nil => simp at h
 | cons a r => simp at h; subst h; exact joinD_one a
theorem kidF_kids {T : List Ti} {l : List Nt} (hL : LightN T l) (id tier : Int) (ht : 0 <= tier /\ tier < (T.length : Int)) : kidF T l id tier = kidsL T.length l id tier := by
 rw [kidK_ids hL id tier ht];unfold kidF ofI;rw [if_neg (by omega)];unfold ofL kidK;rw [List.filter_map];congr 1
 refine List.filter_congr fun x hx => ?_
 have hm := (ofK_all.1 hx).1;show decide (((getN l x.nid).getD nt0).parent = id) = _;rw [hL.get hm];rfl
theorem kidF_none {T : List Ti} {l : List Nt} (h : DocOk T l) {id : Int} (hg : getN l id = none) (tier : Int) (hk : (tierT T tier).kind ≠ 0) : kidF T l id tier = [] := by
 unfold kidF ofI;split
 ·rfl
 ·rename_i ht
  unfold ofL;rw [List.filter_map, List.map_eq_nil_iff, List.filter_eq_nil_iff];intro x hx;obtain ⟨hm, hxt⟩ := ofK_all.1 hx;show ¬ decide (((getN l x.nid).getD nt0).parent = id) = true;rw [h.light.get hm];intro e;have e2 : x.parent = id := of_decide_eq_true e;rcases h.light.par x hm with ⟨k0, _⟩ | ⟨_, p, hp, _⟩
  ·rw [hxt] at k0; exact hk k0
  ·rw [e2, hg] at hp; cases hp
end
section
open Go.RowKit Ru Lay
attribute [local go_sem ↓] Go.wp_at_zero Go.wp_at_succ
set_option maxHeartbeats 1000000 in
theorem refJoin_any (A : Option Addr) (n c : Nat) (l : List ByteArray) (w : World) (hl : SR w w.heap.size A n l) (hz : SzS l) :
    Calls Tryz.prog 42 #[.slice A n c] w fun e w' => e = .returned (.string (joinD l)) /\ w' = w := by
  have HN := hI hl.len;have HL := hI hl;have HZ := hI hz;have hn : n <= 1000 := by rw [<- hl.len]; exact hz.1
  have HSZ : Hid (∀ i, i <= n -> (joinD (l.take i)).size <= 1001000) := fun i hi => by
    have h1 := joinD_sz (l := l.take i) (m := 1000) fun s hs => hz.2 s (List.mem_of_mem_take hs)
    have h2 : (l.take i).length <= 1000 := by rw [List.length_take]; omega
    have h3 : (l.take i).length * (1000 + 1) <= 1000 * 1001 := Nat.mul_le_mul_right 1001 h2;omega
  clear hl hz;go_enter Tryz.func42, Tryz.ntmps42
  go_wp2_with fail
  go_loop [3, 4, 7] (fun vs v4 vi => ∃ i : Nat, i <= n /\ vi = .int .i64 i /\ vs = .string (joinD (l.take i))) (fun _ _ vi => n - (intOf vi).toNat)
  case atStart => exact ⟨0, Nat.zero_le _, rfl, rfl⟩
  case round =>
    obtain ⟨i, hi, rfl, rfl⟩ := hrel;by_cases hlt : i < n
    · obtain ⟨ad, s, rfl, hab, hs, hc⟩ := HL.out.at_ hlt
      have hiz : (i : Int) < (n : Int) := by omega
      have hiA : (0 : Int) <= (i : Int) := by omega
      have hsz : s.size <= 1000 := HZ.out.2 s (List.mem_of_getElem? hs);have hx := HSZ.out i hi;have HLT := hI hlt;by_cases h0 : 0 < i
      · have HX := hI (joinD_next hs h0)
        have h0z : decide ((0 : Int) < (i : Int)) = true := decide_eq_true (by omega);have h0z' : decide ((i : Int) > 0) = true := decide_eq_true (by omega);have h0n : decide (0 < i) = true := decide_eq_true h0;clear hs h0;obtain ⟨x, hxe⟩ : ∃ x, joinD (l.take i) = x := ⟨_, rfl⟩;rw [hxe] at HX hx |-;clear hxe
        have hq1 : x.size + (⟨#[45]⟩ : ByteArray).size <= 9223372036854775807 := by
          have : (⟨#[45]⟩ : ByteArray).size = 1 := rfl;omega
        have hq2 : (x ++ ⟨#[45]⟩ : ByteArray).size + s.size <= 9223372036854775807 := by
          have h1 : (⟨#[45]⟩ : ByteArray).size = 1 := rfl;rw [ByteArray.size_append, h1];omega
        go_wp2;go_round
        case rel => exact ⟨i + 1, HLT.out, by go_num, by rw [HX.out]⟩
        case measure => have := HLT.out; simp [intOf]; omega
      · have HX : Hid (joinD (l.take (i + 1)) = ⟨#[]⟩ ++ s) := by
          obtain rfl : i = 0 := by omega
          rw [show (⟨#[]⟩ : ByteArray) ++ s = s from ByteArray.empty_append];exact joinD_first hs
        have HX0 : Hid (joinD (l.take i) = ⟨#[]⟩) := by
          obtain rfl : i = 0 := by omega
          rfl
        have h0z : decide ((0 : Int) < (i : Int)) = false := decide_eq_false (by omega);have h0z' : decide ((i : Int) > 0) = false := decide_eq_false (by omega);have h0n : decide (0 < i) = false := decide_eq_false h0;clear hs h0;obtain ⟨x, hxe⟩ : ∃ x, joinD (l.take i) = x := ⟨_, rfl⟩;rw [hxe] at HX0 hx |-;rw [<- HX0.out] at HX;clear hxe HX0;have hq1 : x.size + s.size <= 9223372036854775807 := by omega
        clear hx;go_wp2;go_round
        case rel => exact ⟨i + 1, HLT.out, by go_num, by rw [HX.out]⟩
        case measure => have := HLT.out; simp [intOf]; omega
    · obtain rfl : n = i := by omega
      have hiz : ¬ (n : Int) < (n : Int) := by omega
      have HR : Hid (joinD (l.take n) = joinD l) := by show _ = _; rw [List.take_of_length_le (by rw [HN.out]; exact Nat.le_refl _)]
      go_wp2;go_ret;exact ⟨ret_str HR.out, rfl⟩
end
end Go.Proofs.YthcabnfcgjnlnaaGreatDoor
namespace Go.Proofs.YthcabnfcgjnlnaaGreatDoor.Lay
open Go.Proofs.YthcabnfcgjnlnaaGreatDoor Go.Proofs.YthcabnfcgjnlnaaGreatDoor.Ru
theorem cellB_part {r : List ByteArray} {f e k : Nat} (h : f + k < e) : cellB ((r.take (min e r.length)).drop (min f r.length)) k = cellB r (f + k) := by
 unfold cellB;rw [List.getD, List.getD, List.getElem?_drop];by_cases hf : f <= r.length
 ·rw [Nat.min_eq_left hf, List.getElem?_take];by_cases hl : f + k < min e r.length
  ·rw [if_pos hl]
  ·rw [if_neg hl, List.getElem?_eq_none (l := r) (by omega)]
 ·rw [List.getElem?_eq_none (by rw [List.length_take]; omega), List.getElem?_eq_none (by omega)]
theorem colAt_map {L : List (List ByteArray)} {g h : List ByteArray -> List ByteArray} {k : Nat} (hk : ∀ r ∈ L, cellB (g r) k = cellB (h r) k) : colAt (L.map g) k = colAt (L.map h) k := by
 induction L with
 | nil => rfl
 | cons r t ih =>
  show max _ (colAt (t.map g) k) = max _ (colAt (t.map h) k);rw [hk r (by simp), ih fun x hx => hk x (by simp [hx])]
theorem nmax_map {L : List (List ByteArray)} {g : List ByteArray -> List ByteArray} {n : Nat} (h : ∀ r ∈ L, (g r).length <= n) (h2 : ∃ r ∈ L, (g r).length = n) : nmax (L.map g) = n := by
 refine Nat.le_antisymm (nmax_le fun r hr => ?_) ?_
 ·obtain ⟨x, hx, rfl⟩ := List.mem_map.1 hr;exact h x hx
 ·obtain ⟨r, hr, e⟩ := h2;rw [<- e];exact le_nmax (List.mem_map.2 ⟨r, hr, rfl⟩)
theorem nmax_some {L : List (List ByteArray)} (h : 0 < nmax L) : ∃ r ∈ L, r.length = nmax L := by
 induction L with
 | nil => exact absurd h (by decide)
 | cons r t ih =>
  by_cases h1 : nmax t <= r.length
  ·refine ⟨r, by simp, ?_⟩;show _ = max r.length (nmax t);omega
  ·obtain ⟨x, hx, e⟩ := ih (by omega);refine ⟨x, by simp [hx], ?_⟩;show _ = max r.length (nmax t);omega
theorem lineG_congr {c : List Int} {r s : List ByteArray} : ∀ n, (∀ k, k < n -> cellB r k = cellB s k) -> lineG c r n = lineG c s n
 | 0, _ => rfl
 | n + 1, h => by
  show lineG c r n ++ _ ++ pad (cellB r n).data.toList _ = lineG c s n ++ _ ++ pad (cellB s n).data.toList _;rw [lineG_congr n fun k hk => h k (by omega), h n (by omega)]
theorem part_same {L : List (List ByteArray)} {g : Nat × Nat} (h1 : g.1 < g.2) (h2 : g.2 <= nmax L) : alignL (partP L g) = alignL (partR L g) := by
 have hr : ∃ r ∈ L, r.length = nmax L := nmax_some (by omega)
 have n1 : nmax (partP L g) = g.2 - g.1 := by
  refine nmax_map (fun r hr => ?_) ?_
  ·rw [List.length_drop, List.length_take];omega
  ·obtain ⟨r, hr, e⟩ := hr;refine ⟨r, hr, ?_⟩;rw [List.length_drop, List.length_take];omega
 have n2 : nmax (partR L g) = g.2 - g.1 := by
  refine nmax_map (fun r hr => by simp) ?_;obtain ⟨r, hr, _⟩ := hr;exact ⟨r, hr, by simp⟩
 have hcell : ∀ (r : List ByteArray) k, k < g.2 - g.1 -> cellB ((r.take (min g.2 r.length)).drop (min g.1 r.length)) k = cellB ((List.range (g.2 - g.1)).map fun j => cellB r (g.1 + j)) k := fun r k hk => by
  rw [cellB_part (by omega)];refine (cellB_some ?_).symm;rw [List.getElem?_map, List.getElem?_range hk];rfl
 have hcols : cols (partP L g) = cols (partR L g) := by
  unfold cols;rw [n1, n2];refine List.map_congr_left fun k hk => ?_
  rw [List.mem_range] at hk;unfold partP partR;rw [colAt_map fun r _ => hcell r k hk]
 unfold alignL;rw [hcols];unfold partP partR;rw [List.map_map, List.map_map];refine List.map_congr_left fun r _ => ?_
 show lineL _ _ = lineL _ _;unfold lineL;rw [lineG_congr];intro k hk;refine hcell r k ?_;have h3 := cols_len (partR L g);have h4 : (cols (L.map fun r => (List.range (g.2 - g.1)).map fun j => cellB r (g.1 + j))).length = nmax (partR L g) := h3;rw [h4, n2] at hk;exact hk
theorem wrapG_congr {f h : Nat × Nat -> List ByteArray} {G : List (Nat × Nat)} : ∀ n, n <= G.length -> (∀ g ∈ G, f g = h g) -> wrapG f G n = wrapG h G n
 | 0, _, _ => rfl
 | n + 1, hn, hg => by
  show wrapG f G n ++ _ ++ f _ = wrapG h G n ++ _ ++ h _;have : G[n]? = some (G[n]'(by omega)) := List.getElem?_eq_getElem (by omega);rw [wrapG_congr n (by omega) hg, getD_of_some this, hg _ (List.getElem_mem _)]
theorem wrapL_ref (L : List (List ByteArray)) (W : Int) : wrapL L W = wrapG (fun g => alignL (partR L g)) (groups (cols L) W) (groups (cols L) W).length := by
 unfold wrapL;refine wrapG_congr _ (Nat.le_refl _) fun g hg => ?_
 obtain ⟨j, hj⟩ := List.getElem?_of_mem hg;obtain ⟨h1, h2, _⟩ := (groups_ok (cols L) W).each j g.1 g.2 hj;rw [cols_len] at h2;exact part_same h1 h2
end Go.Proofs.YthcabnfcgjnlnaaGreatDoor.Lay
namespace Go.Proofs.YthcabnfcgjnlnaaGreatDoor
section
open Go.RowKit Ru Lay
set_option maxHeartbeats 4000000 in
set_option maxRecDepth 100000 in
theorem refGroups_any (A : Option Addr) (n c : Nat) (l : List Int) (W : Int) (w : World) (h : IR w w.heap.size A n l) (hn : n <= 100000) (hl : ∀ x ∈ l, x <= 9223372036854775807) (hW : W <= 9223372036854775807) :
  Calls Tryz.prog 73 #[.slice A n c, .int .i64 W] w fun e w' => ∃ v, e = .returned v /\ OwnG w' w.heap.size v (groups l W) /\ Below w.heap.size w w' := by
 have HL := hI h;have HLN := hI h.len;have HRG := hI (gst_rng (c := l) (W := W) (M := 9223372036854775807) hl hW (by omega));clear h hl;go_enter Tryz.func73, Tryz.ntmps73
 go_wp2_with fail
 go_loopw [5, 6, 7] (fun v5 v6 v7 wr => ∃ i : Nat, i <= n /\ v7 = .int .i64 i /\ v6 = .int .i64 (gst l W i).2 /\ Hid (OwnG wr w.heap.size v5 (gst l W i).1) /\ Hid (Below w.heap.size w wr)) (fun _ _ v7 _ => n - (intOf v7).toNat)
 case atStart => exact ⟨0, Nat.zero_le _, rfl, rfl, OwnG.nil _ _, Below.refl _ _⟩
 case round =>
  obtain ⟨i, hi, rfl, rfl, HO, HB⟩ := hrel;obtain ⟨w0, hw0⟩ : ∃ w0, w0 = wr := ⟨_, rfl⟩;rw [<- hw0] at HO HB |-;clear hw0;obtain ⟨hu0, hu1⟩ := HRG.out i;obtain ⟨u, hu⟩ : ∃ u, (gst l W i).2 = u := ⟨_, rfl⟩;have HU := hI hu;rw [hu] at hu0 hu1 |-;clear hu;by_cases hlt : i < n
  ·have hiz : (i : Int) < (n : Int) := by omega
   have hiA : (0 : Int) <= (i : Int) := by omega
   obtain ⟨ad, x, rfl, hadb, hx, hcx⟩ := HL.out.at_ hlt;have hcx0 : w0.cell? (ad.add i) = some (.int .i64 x) := (HB.out.cell (by rw [block_of_add]; exact hadb)).trans hcx;have HX : Hid (l.getD i 0 = x) := getD_at hx;have hszw := HB.out.size;have hgl := gst_len (c := l) (W := W) i;have hmx : 0 <= max x 0 := Int.le_max_right _ _;clear hx hcx;by_cases hfit : Fit l W i
   ·have h1 := hfit.1;have h2 : u <= W := by have := hfit.2.1; rw [HU.out] at this; exact this
    have h3 : max x 0 <= W - u - 1 := by have := hfit.2.2; rw [HU.out, HX.out] at this; exact this
    obtain ⟨done, f, hG, hf⟩ := gst_last (c := l) (W := W) i h1;have HGN : Hid (gst l W (i + 1) = (done ++ [(f, i + 1)], u + 1 + max x 0)) := by show _ = _; rw [gst_yes hfit hG, HU.out, HX.out]
    rw [hG] at HO hgl;obtain ⟨g, cap, rfl, hg1, hgl2, hfz, hcl, hst⟩ := HO.out.last;have HST := hI hst;obtain ⟨k, hk⟩ : ∃ k, done.length = k := ⟨_, rfl⟩;rw [hk] at hfz hcl HST;rw [List.length_append, hk, List.length_singleton] at hgl;obtain ⟨n1, hn1⟩ : ∃ n1, n1 = k + 1 := ⟨_, rfl⟩;rw [<- hn1] at HST;rw [hk, <- hn1];have hd0 : (0 : Int) < (i : Int) := by omega
    have hd1 : decide (u <= W) = true := decide_eq_true h2;have hd2 : decide (max x 0 <= W - u - 1) = true := decide_eq_true h3;have hj1 : wrap64 ((n1 : Int) - 1) = (k : Int) := by unfold wrap64; omega
    have hj2 : (n1 : Int) - 1 = (k : Int) := by omega
    have hj3 : n1 - 1 = k := by omega
    have hj4 : ((n1 : Int) - 1).toNat = k := by omega
    have hjn : (k : Int) < (n1 : Int) := by omega
    have hjn' : k < n1 := by omega
    have hjA : (0 : Int) <= (k : Int) := by omega
    have eaddr : (⟨g, 0, none⟩ : Addr).add (k * 2) = ⟨g, k * 2, none⟩ := by
     unfold Addr.add;split
     ·rename_i h; simp [h]
     ·simp
    have HK := hI hk;clear hfit hG hst hk hn1;have hs := HST.out (i + 1);rw [show ((i + 1 : Nat) : Int) = (i : Int) + 1 from by omega] at hs;have HO3 := hI hs.1;have HB3 := hI (HB.out.trans hs.2);clear hs HST;go_wp2;go_roundw
    case rel => exact ⟨i + 1, by omega, by go_num, by rw [HGN.out], by show OwnG _ _ _ _; rw [HGN.out]; exact HO3.out, HB3.out⟩
    case measure => simp [intOf]; omega
   ·have HO2 : Hid (w0.ownsRow w.heap.size 108 2 _ (gst l W i).1.length (pairV (gst l W i).1)) := HO.out;have HGN : Hid (gst l W (i + 1) = ((gst l W i).1 ++ [(i, i + 1)], max x 0)) := by show _ = _; rw [gst_no hfit, HX.out]
    obtain ⟨G, hG⟩ : ∃ G, (gst l W i).1 = G := ⟨_, rfl⟩;rw [hG] at HO2 HGN hgl;clear HO hG;by_cases hi0 : 0 < i
    ·have hd0 : (0 : Int) < (i : Int) := by omega
     by_cases hf1 : u <= W
     ·have hd1 : decide (u <= W) = true := decide_eq_true hf1;have hf2 : ¬ max x 0 <= W - u - 1 := fun h => hfit ⟨hi0, by rw [HU.out]; exact hf1, by rw [HX.out, HU.out]; exact h⟩
      have hd2 : decide (max x 0 <= W - u - 1) = false := decide_eq_false hf2;clear hfit;go_wp2_with (at_builtin; refine wpList_app2 rfl (.tmp 47) (.tmp 52) 105 rfl w.heap.size 108 16 _ info_pair rfl Tryz.underlying105 rfl HO2.out rfl rfl rfl (by omega) (by omega) hszw ?_; intro v7 w2 hown7 hb7)
      have HO3 : Hid (OwnG w2 w.heap.size v7 (gst l W (i + 1)).1) := by
       show World.ownsRow _ _ _ _ _ _ _;rw [HGN.out, List.length_append, List.length_singleton, pairV_app];exact hown7
      have HB3 : Hid (Below w.heap.size w w2) := HB.out.trans hb7;clear hown7 hb7;go_wp2;go_roundw
      case rel => exact ⟨i + 1, by omega, by go_num, by rw [HGN.out], HO3, HB3⟩
      case measure => simp [intOf]; omega
     ·have hd1 : decide (u <= W) = false := decide_eq_false hf1;clear hfit;go_wp2_with (at_builtin; refine wpList_app2 rfl (.tmp 47) (.tmp 52) 105 rfl w.heap.size 108 16 _ info_pair rfl Tryz.underlying105 rfl HO2.out rfl rfl rfl (by omega) (by omega) hszw ?_; intro v7 w2 hown7 hb7)
      have HO3 : Hid (OwnG w2 w.heap.size v7 (gst l W (i + 1)).1) := by
       show World.ownsRow _ _ _ _ _ _ _;rw [HGN.out, List.length_append, List.length_singleton, pairV_app];exact hown7
      have HB3 : Hid (Below w.heap.size w w2) := HB.out.trans hb7;clear hown7 hb7;go_wp2;go_roundw
      case rel => exact ⟨i + 1, by omega, by go_num, by rw [HGN.out], HO3, HB3⟩
      case measure => simp [intOf]; omega
    ·have HI0 : Hid (i = 0) := by show _ = _; omega
     have hd0 : ¬ (0 : Int) < (i : Int) := by omega
     clear hfit;go_wp2_with (at_builtin; refine wpList_app2 rfl (.tmp 47) (.tmp 52) 105 rfl w.heap.size 108 16 _ info_pair rfl Tryz.underlying105 rfl HO2.out rfl rfl rfl (by omega) (by omega) hszw ?_; intro v7 w2 hown7 hb7)
     have HO3 : Hid (OwnG w2 w.heap.size v7 (gst l W (i + 1)).1) := by
      show World.ownsRow _ _ _ _ _ _ _;rw [HGN.out, List.length_append, List.length_singleton, pairV_app];exact hown7
     have HB3 : Hid (Below w.heap.size w w2) := HB.out.trans hb7;clear hown7 hb7;go_wp2;go_roundw
     case rel => exact ⟨i + 1, by omega, by go_num, by rw [HGN.out], HO3, HB3⟩
     case measure => simp [intOf]; omega
  ·obtain rfl : n = i := by omega
   have hfz : ¬ (n : Int) < (n : Int) := by omega
   have h0 := HO.out;have h1 : (gst l W n).1 = groups l W := by unfold groups; rw [HLN.out]
   rw [h1] at h0;have HO5 := hI h0;clear h0 h1;go_wp2;go_ret;exact ⟨_, rfl, HO5.out, HB.out⟩
end
end Go.Proofs.YthcabnfcgjnlnaaGreatDoor
