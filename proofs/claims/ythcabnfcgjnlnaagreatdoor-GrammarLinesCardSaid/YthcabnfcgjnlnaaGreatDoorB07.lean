import Derived.Test.YthcabnfcgjnlnaaGreatDoorB06
import Derived.Deep.MidRow
import Derived.Deep.Upon
import Derived.Deep.Cut
import Derived.Deep.CutRange
import Derived.Shelf.Slices.Turned
import Derived.Shelf.Strconv.Itoa3
import Derived.Shelf.LaysM
set_option linter.unusedVariables false
set_option linter.unusedSimpArgs false
namespace Go.Proofs.YthcabnfcgjnlnaaGreatDoor
section
open Go Go.RowKit
variable {P : Program} {ops : Array Oper} {Q : Exit → Act → World → Prop}
structure BelowX (q : Nat) (a w : World) : Prop where
 os : w.os = a.os
 tape : w.tape = a.tape
 output : w.output = a.output
 size : a.heap.size <= w.heap.size
 block : ∀ k, k < a.heap.size -> k ≠ q -> w.heap[k]? = a.heap[k]?
 keep : ∀ n, a.there q 0 n -> w.there q 0 n
theorem there_lt {w : World} {b o n : Nat} (h : w.there b o n) (hn : 0 < n) : b < w.heap.size := by
 have h1 := (h 0 hn).1;rcases Nat.lt_or_ge b w.heap.size with h2 | h2
 ·exact h2
 ·simp [World.cell?, Array.getElem?_eq_none h2] at h1
theorem BelowX.of {q : Nat} {a w : World} (h : Below a.heap.size a w) : BelowX q a w := ⟨h.os, h.tape, h.output, h.size, fun k hk _ => h.block k hk, fun n hn j hj => by
 have hq := there_lt hn (by omega);obtain ⟨h1, h2⟩ := hn j hj;exact ⟨by rw [h.cell (p := ⟨q, 0 + j, none⟩) hq]; exact h1, (h.frozen (p := ⟨q, 0 + j, none⟩) hq).trans h2⟩⟩
theorem BelowX.trans {q : Nat} {a b c : World} (h : BelowX q a b) (k : BelowX q b c) : BelowX q a c :=
 ⟨k.os.trans h.os, k.tape.trans h.tape, k.output.trans h.output, Nat.le_trans h.size k.size, fun i hi hn => (k.block i (Nat.lt_of_lt_of_le hi h.size) hn).trans (h.block i hi hn), fun n hn => k.keep n (h.keep n hn)⟩
theorem BelowX.cell {q : Nat} {a w : World} {p : Addr} (h : BelowX q a w) (hp : p.block < a.heap.size) (hn : p.block ≠ q) : w.cell? p = a.cell? p := World.cell?_of_block (h.block _ hp hn)
theorem BelowX.below {q B : Nat} {a w : World} (h : BelowX q a w) (hq : B <= q) (hB : B <= a.heap.size) : Below B a w :=
 ⟨h.os, h.tape, h.output, h.size, fun k hk => h.block k (Nat.lt_of_lt_of_le hk hB) (by omega)⟩
theorem setCells_sizeX (b : Nat) : ∀ (vs : List Value) (o : Nat) (w : World), (w.setCells b o vs).heap.size = w.heap.size
 | [], _, _ => rfl
 | v :: r, o, w => by
  show ((w.setCell ⟨b, o, none⟩ v).setCells b (o + 1) r).heap.size = _;rw [setCells_sizeX b r (o + 1)];simp
theorem setCells_tapeX (b : Nat) : ∀ (vs : List Value) (o : Nat) (w : World), (w.setCells b o vs).tape = w.tape
 | [], _, _ => rfl
 | v :: r, o, w => by
  show ((w.setCell ⟨b, o, none⟩ v).setCells b (o + 1) r).tape = _;rw [setCells_tapeX b r (o + 1)];rfl
theorem BelowX.set (w : World) (q : Nat) (cs : List Value) : BelowX q w (w.setCells q 0 cs) :=
 ⟨World.os_setCells _ _ _ _, setCells_tapeX _ _ _ _, World.output_setCells _ _ _ _, by rw [setCells_sizeX]; exact Nat.le_refl _, fun k hk hn => World.heap_setCells_other _ _ _ _ hk hn, fun n hn => World.there_setCells hn _ _ _⟩
inductive ToldX (q : Nat) where
 | is (v : Value)
 | such (p : Value -> World -> Prop) (h : ∀ v w w', p v w -> BelowX q w w' -> p v w')
 | put (p : World -> Prop) (h : ∀ w w', p w -> Below w.heap.size w w' -> p w')
def ToldX.holds {q : Nat} : ToldX q -> Value -> World -> Prop
 | .is v, u, _ => u = v
 | .such p _, u, w => p u w
 | .put p _, _, w => p w
def ToldX.isPut {q : Nat} : ToldX q -> Bool
 | .put _ _ => true
 | _ => false
def toldAtX {q : Nat} (Vs : List (ToldX q)) (i : Nat) : Value -> World -> Prop := match Vs[i]? with
 | none => fun _ _ => True
 | some t => t.holds
theorem toldAtX_kept {q : Nat} (Vs : List (ToldX q)) (i : Nat) (v : Value) (w w' : World) (h : toldAtX Vs i v w) (hb : Below w.heap.size w w') : toldAtX Vs i v w' := by
 unfold toldAtX at *
 cases hi : Vs[i]? with
 | none => trivial
 | some t =>
  rw [hi] at h
  cases t with
  | is x => exact h
  | such p hp => exact hp _ _ _ h (BelowX.of hb)
  | put p hp => exact hp _ _ h hb
theorem toldAtX_keptX {q : Nat} (Vs : List (ToldX q)) (i : Nat) (hi : ∀ t, Vs[i]? = some t -> t.isPut = false) (v : Value) (w w' : World) (h : toldAtX Vs i v w) (hb : BelowX q w w') : toldAtX Vs i v w' := by
 unfold toldAtX at *
 cases hj : Vs[i]? with
 | none => trivial
 | some t =>
  rw [hj] at h
  cases t with
  | is x => exact h
  | such p hp => exact hp _ _ _ h hb
  | put p hp => exact absurd (hi _ hj) (by simp [ToldX.isPut])
def putB {q : Nat} (st : Nat) : List (ToldX q) -> Nat -> Bool
 | [], _ => true
 | t :: r, i => (i == st || !t.isPut) && putB st r (i + 1)
theorem putB_at {q st : Nat} : ∀ {Vs : List (ToldX q)} {k i : Nat} {t : ToldX q}, putB st Vs k = true -> Vs[i]? = some t -> k + i ≠ st -> t.isPut = false
 | [], _, _, _, _, h, _ => by simp at h
 | x :: r, k, 0, t, hb, h, hn => by
  simp at h
  subst h;unfold putB at hb;rw [Bool.and_eq_true, Bool.or_eq_true, beq_iff_eq] at hb;rcases hb.1 with h1 | h1
  ·exact absurd h1 (by simpa using hn)
  ·simpa using h1
 | x :: r, k, i + 1, t, hb, h, hn => by
  rw [List.getElem?_cons_succ] at h;unfold putB at hb;rw [Bool.and_eq_true] at hb;exact putB_at hb.2 h (by omega)
def StepsX (P : Program) (Q : Exit -> Act -> World -> Prop) (q st : Nat) (all : List Oper) (a0 : Act) (w0 : World) (Vs : List (ToldX q)) : Nat -> List Oper -> Prop
  | _, [] => True
  | i, o :: r => (∀ (w : World) (vals : Nat -> Value), BelowX q w0 w -> (∀ j, (o.after.toList.any fun e => Region.binds .any e && e.on == j) = true -> toldAtX Vs j (vals j) w) ->
      ∀ a : Act, a = putAll all 0 vals a0 -> ∀ K : Act -> World -> Prop, (∀ v w', toldAtX Vs i (match o.dst with | none => undef | some _ => v) w' -> (Below w.heap.size w w' ∨ (i = st /\ BelowX q w w')) -> K (a.put o.dst v) w') -> gwp P Q o vals a w K) /\ StepsX P Q q st all a0 w0 Vs (i + 1) r
theorem stepsX_get {q st : Nat} {all : List Oper} {a0 : Act} {w0 : World} {Vs : List (ToldX q)} : ∀ {l : List Oper} {k i : Nat} {o : Oper}, StepsX P Q q st all a0 w0 Vs k l -> l[i]? = some o ->
  ∀ (w : World) (vals : Nat -> Value), BelowX q w0 w -> (∀ j, (o.after.toList.any fun e => Region.binds .any e && e.on == j) = true -> toldAtX Vs j (vals j) w) ->
   ∀ K : Act -> World -> Prop, (∀ v w', toldAtX Vs (k + i) (match o.dst with | none => undef | some _ => v) w' -> (Below w.heap.size w w' ∨ (k + i = st /\ BelowX q w w')) -> K ((putAll all 0 vals a0).put o.dst v) w') -> gwp P Q o vals (putAll all 0 vals a0) w K
 | [], _, _, _, _, h => by simp at h
 | x :: r, k, 0, o, hs, h => by
  simp at h
  subst h;exact fun w vals h1 h2 => hs.1 w vals h1 h2 _ rfl
 | x :: r, k, i + 1, o, hs, h => by
  rw [List.getElem?_cons_succ] at h;have := stepsX_get hs.2 h;rw [show k + (i + 1) = k + 1 + i by omega];exact this
theorem wp_region_toldX {id q : Nat} (st : Nat) {a0 : Act} {w0 : World} {l : List Oper} (Vs : List (ToldX q)) (hm : P.follows .mixedOrders = true) (hb : ((backB l.toArray && (distB l.toArray && dstB l.toArray a0.tmps.size)) && guardB l) = true) (hput : putB st Vs 0 = true)
  (hstep : StepsX P Q q st l a0 w0 Vs 0 l)
  (hQ : ∀ (w : World) (vals : Nat -> Value), BelowX q w0 w -> (∀ j, j < l.length -> toldAtX Vs j (vals j) w) -> Q .normal (putAll l 0 vals a0) w) : (Code.region id l.toArray true).wp P Q a0 w0 := by
 rw [Bool.and_eq_true] at hb;have hb' := hb.1;rw [Bool.and_eq_true, Bool.and_eq_true] at hb';refine wp_region_gen (ops := l.toArray) hm (fun w => BelowX q w0 w) (toldAtX Vs) hb.1 (BelowX.of bR.drew) (fun i o w vals ho hC hd => ?_) (fun w vals hC h => hQ w vals hC fun j hj => h j (by simpa using hj));have hol : l[i]? = some o := by simpa using ho
 refine wpOp_of_gwp hb'.2.1 hb'.2.2 hol hb.2 ?_;refine stepsX_get hstep hol w vals hC (fun j hj => hd j (by rw [<- Array.any_toList]; exact hj)) _ fun v w' h1 h2 => ⟨v, rfl, by rw [Nat.zero_add] at h1; exact h1, ?_, ?_⟩
 ·rcases h2 with h2 | ⟨_, h2⟩
  ·exact hC.trans (BelowX.of h2)
  ·exact hC.trans h2
 ·intro j u hj hu;rcases h2 with h2 | ⟨he, h2⟩
  ·exact toldAtX_kept Vs j u w w' hu h2
  ·exact toldAtX_keptX Vs j (fun t ht => putB_at hput ht (by omega)) u w w' hu h2
theorem toldX_at {q : Nat} {Vs : List (ToldX q)} {i : Nat} {v : Value} {w : World} {t : ToldX q} (h : toldAtX Vs i v w) (ht : Vs[i]? = some t) : t.holds v w := by
 unfold toldAtX at h;rw [ht] at h;exact h
theorem tIX {q : Nat} {Vs : List (ToldX q)} {i : Nat} {u v : Value} {w : World} (h : toldAtX Vs i u w) (e : Vs[i]? = some (.is v)) : u = v := toldX_at h e
theorem eval_old {l : List Oper} {a0 : Act} {vals : Nat -> Value} {t : Nat} (h : (l.all fun o => o.dst != some t) = true) : (putAll l 0 vals a0).eval (.tmp t) = a0.eval (.tmp t) := by
 have := putAll_other vals t l 0 a0 fun i o ho e => by
  have h1 := List.all_eq_true.1 h o (List.mem_of_getElem? ho);rw [e] at h1;simp at h1
 show (putAll l 0 vals a0).tmps.getD t undef = a0.tmps.getD t undef;rw [Array.getD_eq_getD_getElem?, Array.getD_eq_getD_getElem?, this]
theorem eval_slot {l : List Oper} {a0 : Act} {vals : Nat -> Value} {i t : Nat} (h1 : distB l.toArray = true) (h2 : dstB l.toArray a0.tmps.size = true) (hd : (l[i]?.bind (·.dst)) = some t) : (putAll l 0 vals a0).eval (.tmp t) = vals i := by
 obtain ⟨oi, hi, hdi⟩ := Option.bind_eq_some_iff.1 hd;have hia : l.toArray[i]? = some oi := by simpa using hi
 have ht := dst_of h2 i oi t hia hdi
 have := putAll_slot vals t l 0 i oi a0 hi hdi ht fun j o' hij ho e => by
  have hj : l.toArray[j]? = some o' := by simpa using ho
  have := dist_of h1 i j oi o' t hia hj hdi e;omega
 show (putAll l 0 vals a0).tmps.getD t undef = vals i;rw [Array.getD_eq_getD_getElem?, this, Nat.zero_add];rfl
end
section
open Go.RowKit Ru Lay Srt Col
attribute [local go_sem ↓] Go.wp_at_zero Go.wp_at_succ
theorem wpList_appN2 {P : Program} {ops : Array Oper} {rest : List Oper} {o : Oper} {a : Act} {Q : Exit -> Act -> World -> Prop} {w0 : World} {c : Array Value} (hgd : o.guard = none) (s yy : Operand) (t : TypeId)
  (ho : o.op = .call { callee := .builtin .append, args := #[s, yy], argTypes := #[t, t] })
  (base : Nat) (e : TypeId) (size bytes : Nat) (z : Value) (hinfo : (P.info? e).map (fun i => (i.zero, i.size, i.bytes)) = some (some z, size, bytes)) (hzc : z.cells.size = size) (hs0 : 0 < size) (ht : P.underlying t = some (.slice e))
  {v : Value} {n : Nat} {xs : List Value} (hs : a.eval s = v) (hown : w0.ownsRow base e size v n xs) (hy : a.eval yy = .slice (some ⟨w0.heap.size, 0, none⟩) 1 1) (hc : c.toList.length = size) (h1 : ∀ u ∈ c.toList, u.oneCell' = true)
  (h63 : n + 1 <= 9223372036854775807) (hbytes : (n + 1) * bytes <= 140737488355328) (hbase : base <= w0.heap.size)
  (h : ∀ v' w', w'.ownsRow base e size v' (n + 1) (xs ++ c.toList) -> Below base w0 w' -> (w0.alloc (.cells c e)).grownBy w' v.ownBlock -> (v'.ownBlock = v.ownBlock ∨ v'.ownBlock = some (w0.alloc (.cells c e)).heap.size) -> wpList P ops Q rest (a.put o.dst v') w') :
  wpList P ops Q (o :: rest) a (w0.alloc (.cells c e)) := by
 obtain ⟨i0, hi, hz0, hz1, hz2⟩ := info_parts hinfo;refine wpList_append_own_at _ hgd s yy t ho base e i0 z size bytes ht hi hz0 hz1 hz2 hzc hs0 v n xs hs (hown.alloc _) ⟨w0.heap.size, 0, none⟩ 1 1 c.toList hy (by rw [hc, Nat.one_mul]) ?_ h1 (by unfold maxLen; omega) hbytes (by simp; omega) ?_
 ·intro j u hu;rw [Addr.add_mid, Nat.zero_add, World.cell?_alloc_at _ _ _ _ rfl];simpa using hu
 ·intro v' w' hown' hgrow _ hat;exact h v' w' hown' (below_append (Below.refl base w0) hbase hown (Nat.le_refl _) hgrow) hgrow hat
def ListsOff (g : Option Nat) (h : Hv) : Prop := (∀ ad, h.la = some ad -> 0 < h.ln -> some ad.block ≠ g) /\ (∀ ad, h.ra = some ad -> 0 < h.rn -> some ad.block ≠ g)
theorem sr_grown {w w' : World} {B n : Nat} {A : Option Addr} {l : List ByteArray} {g : Option Nat} (h : SR w B A n l) (hB : B <= w.heap.size) (hg : w.grownBy w' g) (ho : ∀ ad, A = some ad -> 0 < n -> some ad.block ≠ g) : SR w' B A n l :=
 ⟨h.1, fun h0 => by
  obtain ⟨ad, e, hb, hc⟩ := h.2 h0;refine ⟨ad, e, hb, fun j u hu => ?_⟩;rw [<- hc j u hu];exact World.cell?_of_block (hg.block _ (by rw [block_of_add]; omega) (by rw [block_of_add]; exact ho ad e h0))⟩
theorem HvR.grown {w w' : World} {h : Hv} {g : Option Nat} (hh : HvR w w.heap.size h) (hg : w.grownBy w' g) (ho : ListsOff g h) : HvR w' w'.heap.size h :=
 ⟨Reads.more (sr_grown hh.left (Nat.le_refl _) hg ho.1) hg.size, Reads.more (sr_grown hh.right (Nat.le_refl _) hg ho.2) hg.size, hh.lc, hh.rc⟩
end
section
open Go.RowKit Ru Lay
attribute [local go_sem ↓] Go.wp_at_zero Go.wp_at_succ
def NOk (T : List Ti) (l : List Nt) (i : Nat) : Prop := ∀ x, l[i]? = some x -> 1 <= x.nid /\ (∀ y, 0 < i -> l[i - 1]? = some y -> y.nid < x.nid) /\ (0 <= x.tier /\ x.tier < (T.length : Int)) /\ PlOk T l x /\ x.text.size <= 200
def SibOk (kd : Int) (s : List Nt) : Prop := (timedK kd = true -> NoOver s) /\ (kd = 3 -> Ranked s) /\ (kd = 4 -> s.length <= 1)
def TierOk (T : List Ti) (l : List Nt) (tier : Int) : Prop := ∀ x ∈ l, x.tier = tier -> SibOk (tierT T tier).kind (sibF l tier x.parent)
structure DocOk (T : List Ti) (l : List Nt) : Prop where
 tiers : ∀ i t, T[i]? = some t -> TOk t i
 notes : ∀ i, i < l.length -> NOk T l i
 sibs : ∀ t : Nat, t < T.length -> TierOk T l (t : Int)
theorem DocOk.ids {T : List Ti} {l : List Nt} (h : DocOk T l) : ∀ (j i : Nat) (x y : Nt), i < j -> l[i]? = some x -> l[j]? = some y -> x.nid < y.nid
 | 0, i, x, y, hij, _, _ => by omega
 | j + 1, i, x, y, hij, hx, hy => by
  have hj := (List.getElem?_eq_some_iff.1 hy).1;have hz : l[j]? = some l[j] := List.getElem?_eq_getElem (by omega);have h1 := (h.notes (j + 1) hj y hy).2.1 l[j] (by omega) (by rw [Nat.add_sub_cancel]; exact hz);by_cases e : i = j
  ·subst e;rw [hx] at hz
   cases hz;exact h1
  ·have := DocOk.ids h j i x l[j] (by omega) hx hz;omega
theorem DocOk.note {T : List Ti} {l : List Nt} (h : DocOk T l) {x : Nt} (hx : x ∈ l) : (0 <= x.tier /\ x.tier < (T.length : Int)) /\ PlOk T l x := by
 obtain ⟨i, hi⟩ := List.getElem?_of_mem hx;have := h.notes i (List.getElem?_eq_some_iff.1 hi).1 x hi;exact ⟨this.2.2.1, this.2.2.2.1⟩
theorem DocOk.text {T : List Ti} {l : List Nt} (h : DocOk T l) {x : Nt} (hx : x ∈ l) : x.text.size <= 200 := by
 obtain ⟨i, hi⟩ := List.getElem?_of_mem hx;have := h.notes i (List.getElem?_eq_some_iff.1 hi).1 x hi;exact this.2.2.2.2
theorem DocOk.tok {T : List Ti} {l : List Nt} (h : DocOk T l) {x : Nt} (hx : x ∈ l) : TOk0 (tierT T x.tier) x.tier.toNat := by
 have h1 := (h.note hx).1;have h2 : x.tier.toNat < T.length := by omega
 refine (h.tiers _ _ ?_).1;unfold tierT;rw [List.getD, List.getElem?_eq_getElem h2];rfl
theorem DocOk.at_ {T : List Ti} {l : List Nt} (h : DocOk T l) {t : Int} (h0 : 0 <= t) (h1 : t < (T.length : Int)) : TOk (tierT T t) t.toNat := by
 have h2 : t.toNat < T.length := by omega
 refine h.tiers _ _ ?_;unfold tierT;rw [List.getD, List.getElem?_eq_getElem h2];rfl
theorem ranked_inj : ∀ (n : Nat) (f : Nat -> Int), (∀ k : Nat, k < n -> ∃ i, i < n /\ f i = (k : Int)) -> ∀ i j, i < n -> j < n -> f i = f j -> i = j := by
 intro n f h i j hi hj e;by_cases hne : i = j
 ·exact hne
 exfalso
 have hsub : (List.range n).map (fun k : Nat => (k : Int)) ⊆ ((List.range n).filter fun q => decide (q ≠ j)).map f := by
  intro z hz;obtain ⟨k, hk, rfl⟩ := List.mem_map.1 hz;obtain ⟨q, hq, hqk⟩ := h k (List.mem_range.1 hk);by_cases eq : q = j
  ·subst eq;exact List.mem_map.2 ⟨i, List.mem_filter.2 ⟨List.mem_range.2 hi, by simpa using hne⟩, by rw [e, hqk]⟩
  ·exact List.mem_map.2 ⟨q, List.mem_filter.2 ⟨List.mem_range.2 hq, by simpa using eq⟩, hqk⟩
 have hnd : ((List.range n).map (fun k : Nat => (k : Int))).Nodup := by
  rw [List.nodup_iff_pairwise_ne, List.pairwise_map];exact (List.nodup_range).imp fun h1 h2 => h1 (by omega)
 have hle := hnd.length_le_of_subset hsub;rw [List.length_map, List.length_range, List.length_map] at hle
 have hlt : ((List.range n).filter fun q => decide (q ≠ j)).length < (List.range n).length := by
  refine List.length_filter_lt_length_iff_exists.2 ⟨j, List.mem_range.2 hj, by simp⟩
 rw [List.length_range] at hlt;omega
theorem DocOk.light {T : List Ti} {l : List Nt} (h : DocOk T l) : LightN T l := by
 refine ⟨List.pairwise_iff_getElem.2 fun i j hi hj hij => h.ids j i _ _ hij (List.getElem?_eq_getElem hi) (List.getElem?_eq_getElem hj), fun x hx => (h.note hx).1, fun x hx => ?_, fun x hx => ?_, fun x hx y hy ht hp hk => ?_⟩
 ·rcases (h.note hx).2.1 with h1 | ⟨h1, p, h2, h3⟩
  ·exact .inl h1
  ·refine .inr ⟨h1, p, h2, h3, ?_⟩;rcases (h.tok hx).2 with ⟨k0, _⟩ | ⟨_, k1, k2⟩
   ·exact absurd k0 h1
   ·have := (h.note hx).1;rw [h3];omega
 ·obtain ⟨_, _, h2, h3⟩ := (h.note hx).2;split
  ·rename_i hk
   rcases h3 with h3 | h3
   ·exact h3
   ·rw [h3] at hk; exact absurd hk (by decide)
  ·rename_i hk
   exact (h2 (by simpa using hk)).1
 ·have htr := (h.note hx).1;have hso := h.sibs x.tier.toNat (by omega) x hx (by omega);rw [show ((x.tier.toNat : Nat) : Int) = x.tier by omega] at hso;have hxm : x ∈ sibF l x.tier x.parent := List.mem_filter.2 ⟨hx, by simp⟩;have hym : y ∈ sibF l x.tier x.parent := List.mem_filter.2 ⟨hy, by simp [ht, hp]⟩;obtain ⟨i, hi⟩ := List.getElem?_of_mem hxm;obtain ⟨j, hj⟩ := List.getElem?_of_mem hym;have hil := (List.getElem?_eq_some_iff.1 hi).1;have hjl := (List.getElem?_eq_some_iff.1 hj).1;suffices e : i = j by subst e; rw [hi] at hj; exact Option.some.inj hj
  unfold keyT at hk;rw [<- ht] at hk;by_cases htk : timedK (tierT T x.tier).kind = true
  ·rw [if_pos htk, if_pos htk] at hk;have hno := hso.1 htk;have hxa := (h.note hx).2.2.1 htk;have hya := (h.note hy).2.2.1 (by rw [<- ht]; exact htk);rcases Nat.lt_trichotomy i j with hlt | hlt | hlt
   ·exact absurd ⟨by omega, by omega⟩ (hno j i y x hlt hj hi)
   ·exact hlt
   ·exact absurd ⟨by omega, by omega⟩ (hno i j x y hlt hi hj)
  ·rw [if_neg htk, if_neg htk] at hk;have hkd := (h.tok hx).1
   have h34 : (tierT T x.tier).kind = 3 ∨ (tierT T x.tier).kind = 4 := by
    by_cases e3 : (tierT T x.tier).kind = 3
    ·exact .inl e3
    ·by_cases e4 : (tierT T x.tier).kind = 4
     ·exact .inr e4
     ·exfalso
      have : (tierT T x.tier).kind = 0 ∨ (tierT T x.tier).kind = 1 ∨ (tierT T x.tier).kind = 2 := by omega
      apply htk
      unfold timedK;rcases this with e | e | e <;> rw [e] <;> decide
   rcases h34 with e3 | e4
   ·have hrk := hso.2.1 e3;refine ranked_inj (sibF l x.tier x.parent).length (fun q => ((sibF l x.tier x.parent).getD q nt0).rank) (fun k hk => ?_) i j hil hjl ?_
    ·obtain ⟨q, z, hq, hz⟩ := hrk k hk;exact ⟨q, (List.getElem?_eq_some_iff.1 hq).1, by show ((sibF l x.tier x.parent).getD q nt0).rank = _; rw [List.getD, hq]; exact hz⟩
    ·show ((sibF l x.tier x.parent).getD i nt0).rank = ((sibF l x.tier x.parent).getD j nt0).rank;rw [List.getD, hi, List.getD, hj];exact hk
   ·have := hso.2.2 e4;omega
def IntIf (p : Int -> Prop) (w : World) (e : Ending) (w' : World) : Prop := ∃ r : Int, e = .returned (.int .i64 r) /\ p r /\ Below w.heap.size w w'
theorem IntIf.of {p : Int -> Prop} {w w' : World} (r : Int) (h : p r) (hb : Below w.heap.size w w') : IntIf p w (.returned (.int .i64 r)) w' := ⟨r, rfl, h, hb⟩
end
section
open Go.RowKit Ru Lay Srt Col
theorem ofL_len {T : List Ti} {l : List Nt} {tier : Int} : (ofL T l tier).length <= l.length := by
 unfold ofL;rw [List.length_map, (ofK_perm l.length (Nat.le_refl _)).length_eq, List.take_length];exact List.length_filter_le _ _
def TierUp (T : List Ti) : Prop := ∀ t : Int, 0 <= t -> t < (T.length : Int) -> (tierT T t).kind ≠ 0 -> 0 <= (tierT T t).parent /\ (tierT T t).parent < t
def progOf (T : List Ti) (l : List Nt) : Nat -> Int -> List Int
 | 0, _ => []
 | f + 1, t => if t < 0 ∨ (T.length : Int) <= t then [] else if (tierT T t).kind = 0 then kidsL T.length l 0 t else (progOf T l f (tierT T t).parent).flatMap fun id => kidsL T.length l id t
theorem befF_fuel {T : List Ti} {l : List Nt} (h : LightN T l) : ∀ (f g : Nat) (a b : Nt), a ∈ l -> b ∈ l -> a.tier = b.tier -> a.tier < (f : Int) -> f <= g -> befF T l g a b = befF T l f a b
 | 0, _, a, b, ha, _, _, hf, _ => by have := (h.tier a ha).1; omega
 | f + 1, 0, _, _, _, _, _, _, hg => by omega
 | f + 1, g + 1, a, b, ha, hb, ht, hf, hg => by
  unfold befF;by_cases hp : a.parent = b.parent
  ·rw [if_pos hp, if_pos hp]
  ·rw [if_neg hp, if_neg hp];obtain ⟨m1, m2, h3, h4, _, _⟩ := h.up (f := f) ha hb ht hf hp;exact befF_fuel h f g _ _ m1 m2 h3 h4 (by omega)
theorem ofK_all {T : List Ti} {l : List Nt} {tier : Int} {x : Nt} : x ∈ ofK T l tier l.length ↔ x ∈ l /\ x.tier = tier := by
 rw [(ofK_perm (T := T) (l := l) (tier := tier) l.length (Nat.le_refl _)).mem_iff, List.take_length, List.mem_filter, decide_eq_true_eq]
theorem ofK_nodup {T : List Ti} {l : List Nt} {tier : Int} (hL : LightN T l) : (ofK T l tier l.length).Nodup := by
 rw [(ofK_perm (T := T) (l := l) (tier := tier) l.length (Nat.le_refl _)).nodup_iff, List.take_length];have h1 : l.Nodup := hL.ids.imp fun h e => by rw [e] at h; omega
 exact h1.filter _
def kidK (T : List Ti) (l : List Nt) (id tier : Int) : List Nt := (ofK T l tier l.length).filter fun x => decide (x.parent = id)
theorem kidK_ids {T : List Ti} {l : List Nt} (hL : LightN T l) (id tier : Int) (ht : 0 <= tier /\ tier < (T.length : Int)) : kidsL T.length l id tier = (kidK T l id tier).map Nt.nid := by
 unfold kidsL kidK;rw [ofK_sibs hL id tier ht]
theorem ofK_kids {T : List Ti} {l : List Nt} (hL : LightN T l) {t : Int} (ht : 0 <= t /\ t < (T.length : Int)) (hk : (tierT T t).kind ≠ 0) :
  ofK T l t l.length = (ofK T l (tierT T t).parent l.length).flatMap fun p => kidK T l p.nid t := by
 have hsort := ofK_sorted (tier := t) hL l.length (Nat.le_refl _)
 have hmemB : ∀ x, x ∈ (ofK T l (tierT T t).parent l.length).flatMap (fun p => kidK T l p.nid t) ↔ x ∈ ofK T l t l.length := fun x => by
  rw [List.mem_flatMap];constructor
  ·rintro ⟨p, _, hx⟩;exact (List.mem_filter.1 hx).1
  ·intro hx;obtain ⟨h1, h2⟩ := ofK_all.1 hx;rcases hL.par x h1 with ⟨k0, _⟩ | ⟨_, p, hg, hpt, _⟩
   ·rw [h2] at k0; exact absurd k0 hk
   ·obtain ⟨hpm, hpn⟩ := getN_mem hg;exact ⟨p, ofK_all.2 ⟨hpm, by rw [hpt, h2]⟩, List.mem_filter.2 ⟨hx, by rw [decide_eq_true_eq, hpn]⟩⟩
 have hpw : ((ofK T l (tierT T t).parent l.length).flatMap fun p => kidK T l p.nid t).Pairwise fun a b => befT T l a b = true := by
  rw [List.pairwise_flatMap];refine ⟨fun p _ => hsort.filter _, ?_⟩;have hP := ofK_sorted (tier := (tierT T t).parent) hL l.length (Nat.le_refl _);refine List.Pairwise.imp_of_mem ?_ hP;intro p q hp hq hpq x hx y hy;obtain ⟨x1, x2⟩ := List.mem_filter.1 hx;obtain ⟨y1, y2⟩ := List.mem_filter.1 hy;rw [decide_eq_true_eq] at x2 y2;obtain ⟨hxl, hxt⟩ := ofK_all.1 x1;obtain ⟨hyl, hyt⟩ := ofK_all.1 y1;obtain ⟨hpl, hpt⟩ := ofK_all.1 hp;obtain ⟨hql, hqt⟩ := ofK_all.1 hq
  have hne : x.parent ≠ y.parent := fun e => by
   have e2 : p = q := hL.inj hpl hql (by rw [<- x2, <- y2, e]);subst e2;unfold befT at hpq;exact befF_asym hL _ p p hpl hpl rfl (by have := (hL.tier p hpl).1; omega) hpq hpq
  unfold befT befF;rw [if_neg hne];have e1 : parN l x = p := by unfold parN; rw [x2, hL.get hpl]; rfl
  have e2 : parN l y = q := by unfold parN; rw [y2, hL.get hql]; rfl
  rw [e1, e2];unfold befT at hpq;have hup := hL.up (f := x.tier.toNat) hxl hyl (by rw [hxt, hyt]) (by have := (hL.tier x hxl).1; omega) hne;rw [e1] at hup;have hp0 := (hL.tier p hpl).1;rw [befF_fuel hL (p.tier.toNat + 1) x.tier.toNat p q hpl hql (by rw [hpt, hqt]) (by omega) (by have := hup.2.2.2.1; omega)];exact hpq
 have hnd : ((ofK T l (tierT T t).parent l.length).flatMap fun p => kidK T l p.nid t).Nodup := by
  unfold List.Nodup;refine List.Pairwise.imp_of_mem ?_ hpw;intro a b ha hb h e;subst e;obtain ⟨h1, h2⟩ := ofK_all.1 ((hmemB a).1 ha);unfold befT at h;exact befF_asym hL _ a a h1 h1 rfl (by have := (hL.tier a h1).1; omega) h h
 have hperm : (ofK T l t l.length).Perm ((ofK T l (tierT T t).parent l.length).flatMap fun p => kidK T l p.nid t) :=
  (List.perm_ext_iff_of_nodup (ofK_nodup hL) hnd).2 fun x => (hmemB x).symm
 refine List.Perm.eq_of_pairwise (le := fun a b => befT T l a b = true) (fun a b ha hb h1 h2 => ?_) hsort hpw hperm;obtain ⟨a1, a2⟩ := ofK_all.1 ha;obtain ⟨b1, b2⟩ := ofK_all.1 ((hmemB b).1 hb);unfold befT at h1 h2;rw [b2, <- a2] at h2;exact (befF_asym hL _ a b a1 b1 (by rw [a2, b2]) (by have := (hL.tier a a1).1; omega) h1 h2).elim
theorem progOf_is {T : List Ti} {l : List Nt} (hL : LightN T l) (hT : TierUp T) : ∀ (f : Nat) (t : Int), 0 <= t -> t < (T.length : Int) -> t < (f : Int) -> progOf T l f t = ofL T l t
 | 0, t, h0, _, hf => by omega
 | f + 1, t, h0, h1, hf => by
  unfold progOf;rw [if_neg (by omega)];by_cases hk : (tierT T t).kind = 0
  ·rw [if_pos hk, kidK_ids hL 0 t ⟨h0, h1⟩];unfold ofL kidK;rw [List.filter_eq_self.2 fun x hx => ?_];obtain ⟨hxl, hxt⟩ := ofK_all.1 hx;rcases hL.par x hxl with ⟨_, hp⟩ | ⟨hn, _⟩
   ·exact decide_eq_true hp
   ·rw [hxt] at hn; exact absurd hk hn
  ·rw [if_neg hk];obtain ⟨hp0, hpt⟩ := hT t h0 h1 hk;rw [progOf_is hL hT f _ hp0 (by omega) (by omega)];unfold ofL;rw [ofK_kids hL ⟨h0, h1⟩ hk, List.map_flatMap, List.flatMap_map];congr 1
   funext p
   exact kidK_ids hL p.nid t ⟨h0, h1⟩
end
section
open Go.RowKit Ru Lay
attribute [local go_sem ↓] Go.wp_at_zero Go.wp_at_succ
section
variable {P : Program} {Q : Exit → Act → World → Prop}
end
def ItemR (W : World) (b : Nat) (xs : List Value) (v : Value) : Prop := W.rangeAt b 0 xs /\ b < W.heap.size /\ v.ownBlock ≠ some b
theorem addr_zero (b j : Nat) : (⟨b, 0, none⟩ : Addr).add j = ⟨b, j, none⟩ := by
 unfold Addr.add;split
 ·rename_i h; simp [h]
 ·simp
theorem ItemR.reads {W : World} {b : Nat} {xs : List Value} {v : Value} {s : Nat} (h : ItemR W b xs v) (hs : xs.length = s) : Reads W W.heap.size s (some ⟨b, 0, none⟩) 1 xs := by
 refine ⟨by rw [hs, Nat.one_mul], fun _ => ⟨_, rfl, h.2.1, fun j u hu => ?_⟩⟩;rw [addr_zero];have := h.1 j u hu;rwa [Nat.zero_add] at this
theorem ItemR.grown {W W' : World} {b : Nat} {xs : List Value} {v v' : Value} (h : ItemR W b xs v) (hg : W.grownBy W' v.ownBlock) (hat : v'.ownBlock = v.ownBlock ∨ v'.ownBlock = some W.heap.size) : ItemR W' b xs v' := by
 obtain ⟨h1, h2, h3⟩ := h;refine ⟨fun j u hu => ?_, Nat.lt_of_lt_of_le h2 hg.size, fun e => ?_⟩
 ·rw [World.cell?_of_block (hg.block b h2 (fun e => h3 e.symm))];exact h1 j u hu
 ·rcases hat with h4 | h4
  ·exact h3 (h4 ▸ e)
  ·rw [h4] at e;injection e with e
   omega
theorem ItemR.on {W W' : World} {b : Nat} {xs : List Value} {v : Value} (h : ItemR W b xs v) (hb : Below W.heap.size W W') : ItemR W' b xs v := by
 obtain ⟨h1, h2, h3⟩ := h;refine ⟨fun j u hu => ?_, Nat.lt_of_lt_of_le h2 hb.size, h3⟩;rw [hb.cell (p := ⟨b, 0 + j, none⟩) h2];exact h1 j u hu
theorem ItemR.new {W : World} {b base e e2 size n : Nat} {c : Array Value} {v : Value} {xs : List Value} (h : W.ownsRow base e2 size v n xs) (hb : W.heap.size = b) : ItemR (W.alloc (.cells c e)) b c.toList v := by
 subst hb;refine ⟨fun j u hu => ?_, by simp, fun he => ?_⟩
 ·rw [Nat.zero_add, World.cell?_alloc_new];simpa using hu
 ·have := (h.lt _ he).2;omega
theorem ItemR.first {W : World} {e e' : Nat} {c : Array Value} : ItemR ((W.alloc (.cells c e)).alloc (.cells #[] e')) W.heap.size c.toList (.slice (some ⟨(W.alloc (.cells c e)).heap.size, 0, none⟩) 0 0) := by
 refine ⟨fun j u hu => ?_, by simp; omega, by simp [Value.ownBlock]⟩;rw [Nat.zero_add, World.cell?_alloc_lt _ _ _ (by simp), World.cell?_alloc_new];simpa using hu
end
section
open Go Go.RowKit
variable {P : Program} {ops : Array Oper} {Q : Exit → Act → World → Prop}
inductive ToldF where
 | is (v : Value)
 | such (p : Value -> World -> Prop) (h : ∀ v w w', p v w -> Below w.heap.size w w' -> p v w')
 | own (g : Nat) (p : Value -> World -> Prop) (h : ∀ v w w', p v w -> Below w.heap.size w w' -> p v w') (hl : ∀ v w, p v w -> ∀ b, v.ownBlock = some b -> b < w.heap.size)
def ToldF.holds : ToldF -> Value -> World -> Prop
 | .is v, u, _ => u = v
 | .such p _, u, w => p u w
 | .own _ p _ _, u, w => p u w
def NewAt (n : Nat) (w0 : World) (u : Value) (w : World) : Prop := ∃ b, u = .pointer (some ⟨b, 0, none⟩) /\ w0.heap.size <= b /\ b < w.heap.size /\ w.there b 0 n
theorem NewAt.on {n : Nat} {w0 : World} {u : Value} {w w' : World} (h : NewAt n w0 u w) (hn : 0 < n) (hb : Below w.heap.size w w') : NewAt n w0 u w' := by
 obtain ⟨b, e, h1, h2, h3⟩ := h
 exact ⟨b, e, h1, Nat.lt_of_lt_of_le h2 hb.size, fun j hj => by
  obtain ⟨g1, g2⟩ := h3 j hj;exact ⟨by rw [hb.cell (p := ⟨b, 0 + j, none⟩) h2]; exact g1, (hb.frozen (p := ⟨b, 0 + j, none⟩) h2).trans g2⟩⟩
inductive ToldA where
 | is (v : Value)
 | new
 | put
def ToldA.holds (n : Nat) (w0 : World) : ToldA -> Value -> World -> Prop
 | .is v, u, _ => u = v
 | .new, u, w => NewAt n w0 u w
 | .put, _, _ => True
def ToldA.isPut : ToldA -> Bool
 | .put => true
 | _ => false
def Filled (n : Nat) (cs : List Value) (w0 : World) (u : Value) (w : World) : Prop := ∃ b, u = .pointer (some ⟨b, 0, none⟩) /\ w0.heap.size <= b /\ b < w.heap.size /\ w.rangeAt b 0 cs
theorem Filled.on {n : Nat} {cs : List Value} {w0 : World} {u : Value} {w w' : World} (h : Filled n cs w0 u w) (hb : Below w.heap.size w w') : Filled n cs w0 u w' := by
 obtain ⟨b, e, h1, h2, h3⟩ := h;exact ⟨b, e, h1, Nat.lt_of_lt_of_le h2 hb.size, fun j v hv => by rw [hb.cell (p := ⟨b, 0 + j, none⟩) h2]; exact h3 j v hv⟩
end
section
open Go.RowKit Ru Lay
attribute [local go_sem ↓] Go.wp_at_zero Go.wp_at_succ
def curF (l : List Nt) (id : Int) : Nat -> Option Nt
 | 0 => getN l id
 | k + 1 => (curF l id k).bind fun x => getN l x.parent
def chainL (l : List Nt) (id : Int) : Nat -> List Int
 | 0 => []
 | k + 1 => chainL l id k ++ ((curF l id k).map Nt.nid).toList
theorem curF_less {l : List Nt} {id : Int} : ∀ {k : Nat}, (curF l id (k + 1)).isSome = true -> (curF l id k).isSome = true
 | k, h => by
  unfold curF at h
  cases e : curF l id k with
  | none => rw [e] at h; cases h
  | some x => rfl
theorem chainL_len {l : List Nt} {id : Int} : ∀ {k : Nat}, (curF l id k).isSome = true -> (chainL l id k).length = k
 | 0, _ => rfl
 | k + 1, h => by
  have h1 := curF_less h;unfold chainL;rw [List.length_append, chainL_len h1]
  cases e : curF l id k with
  | none => rw [e] at h1; cases h1
  | some x => rfl
theorem curF_none {l : List Nt} {id : Int} {k : Nat} (h : curF l id k = none) : ∀ j, curF l id (k + j) = none
 | 0 => h
 | j + 1 => by
  show (curF l id (k + j)).bind _ = none;rw [curF_none h j]; rfl
theorem chainL_stop {l : List Nt} {id : Int} {k : Nat} (h : curF l id k = none) : ∀ j, chainL l id (k + j) = chainL l id k
 | 0 => rfl
 | j + 1 => by
  show chainL l id (k + j) ++ ((curF l id (k + j)).map Nt.nid).toList = _;rw [curF_none h j, chainL_stop h j]; simp
theorem curF_next {l : List Nt} {id : Int} {k : Nat} {x : Nt} (h : curF l id k = some x) : curF l id (k + 1) = getN l x.parent := by
 show (curF l id k).bind _ = _;rw [h]; rfl
theorem chainL_next {l : List Nt} {id : Int} {k : Nat} {x : Nt} (h : curF l id k = some x) : chainL l id (k + 1) = chainL l id k ++ [x.nid] := by
 show chainL l id k ++ _ = _;rw [h]; rfl
theorem range_grown {w w' : World} {b o : Nat} {cs : List Value} {row : Option Nat} (h : w.rangeAt b o cs) (hg : w.grownBy w' row) (hne : some b ≠ row) : w'.rangeAt b o cs := fun j v hv => hg.cell (h j v hv) hne
def slLen : Value -> Nat
 | .slice _ n _ => n
 | _ => 0
theorem doc_cells (w : World) (rid : Int) (name : ByteArray) (len day : Int) (sa ta na : Option Addr) (sn sc tn tc nn nc : Nat) : ∃ W0, w.alloc (.cells #[.int .i64 rid, .string name, .int .i64 len, .int .i64 day, .slice sa sn sc, .slice ta tn tc, .slice na nn nc] 38) = W0 /\ W0.heap.size = w.heap.size + 1 /\ Below w.heap.size w W0 /\
  ∀ X, Below W0.heap.size W0 X -> X.rangeAt w.heap.size 0 [.int .i64 rid, .string name, .int .i64 len, .int .i64 day, .slice sa sn sc, .slice ta tn tc, .slice na nn nc] := by
 refine ⟨_, rfl, by simp, (Below.refl _ w).alloc (Nat.le_refl _) _, fun X hX => range_below hX (by simp) fun j v hv => ?_⟩;rw [Nat.zero_add, World.cell?_alloc_new w _ _ j, <- hv, <- List.getElem?_toArray]
set_option maxHeartbeats 4000000 in
set_option maxRecDepth 100000 in
theorem chain_any (d : Dv) (l : List Nt) (id : Int) (K : Nat) (w : World) (hl : NotesR w w.heap.size d.na d.nn l) (hn : d.nn <= 9223372036854775807) (hend : curF l id K = none) (hK : K <= 1000000) :
    Calls Tryz.prog 58 #[docV d, .int .i64 id] w fun e w' => ∃ v, e = .returned v /\ OwnI w' w.heap.size v (chainL l id K) /\ Below w.heap.size w w' := by
  have HG := hI fun (W : World) (hW : Below w.heap.size w W) (id : Int) => get_any d l id W (hl.on hW) hn
  have HEND := hI hend;clear hl hend;unfold docV at HG;unfold docV;obtain ⟨rid, name, len, day, sa, sn, sc, ta, tn, tc, na, nn, nc⟩ := d;simp only at HG hn |-;obtain ⟨W0, hW0, hz0, hB0, hK0⟩ := doc_cells w rid name len day sa ta na sn sc tn tc nn nc;have HB := hI hB0;have HK := hI hK0;have hg0 := hK0 W0 bR;obtain ⟨k0, k1, k2, k3, k4, k5, k6⟩ := range7 hg0;have HGG := hI (HG.out W0 HB.out id);unfold getV noteV at HGG;obtain ⟨y, hy⟩ : ∃ y, (getN l id).getD nt0 = y := ⟨_, rfl⟩;obtain ⟨bs, hbs⟩ : ∃ bs, (getN l id).isSome = bs := ⟨_, rfl⟩;have HY : Hid ((curF l id 0).getD nt0 = y /\ (curF l id 0).isSome = bs) := ⟨hy, hbs⟩;rw [hy, hbs] at HGG;clear hB0 hK0 hg0 hy hbs;go_enter Tryz.func58, Tryz.ntmps58
  go_upto_region 2 with fail
  (try rw [hW0])
  clear hW0;go_wp2_with fail
  refine HGG.out.mono ?_;rintro e w1 ⟨rfl, hb⟩;have HB1 := hI hb;have HR1 : Hid ((w1.alloc (.cells #[.int .i64 y.nid, .int .i64 y.tier, .int .i64 y.parent, .int .i64 y.at1, .int .i64 y.at2, .int .i64 y.rank, .string y.text] 58)).rangeAt w1.heap.size 0 (encN y)) := fun j v hv => by rw [Nat.zero_add, World.cell?_alloc_new, <- hv, <- List.getElem?_toArray]; rfl
  have HT1 : Hid (w1.heap.size < (w1.alloc (.cells #[.int .i64 y.nid, .int .i64 y.tier, .int .i64 y.parent, .int .i64 y.at1, .int .i64 y.at2, .int .i64 y.rank, .string y.text] 58)).heap.size) := by show _ < _; simp
  have HW1 : Hid (Below W0.heap.size W0 (w1.alloc (.cells #[.int .i64 y.nid, .int .i64 y.tier, .int .i64 y.parent, .int .i64 y.at1, .int .i64 y.at2, .int .i64 y.rank, .string y.text] 58))) := hb.alloc hb.size _;have hb1 := hb.size;clear hb HGG k0 k1 k2 k3 k4 k5 k6;go_wp2_with fail
  go_loopw [5, 6, 7] (fun v5 v6 v7 wr => ∃ (k b : Nat) (y : Nt) (bs : Bool), k <= K /\ v6 = .pointer (some ⟨b, 0, none⟩) /\ v7 = .bool bs /\ W0.heap.size <= b /\ Hid ((curF l id k).getD nt0 = y /\ (curF l id k).isSome = bs) /\ Hid (b < wr.heap.size) /\ Hid (wr.rangeAt b 0 (encN y)) /\ Hid (OwnI wr W0.heap.size v5 (chainL l id k)) /\ Hid (some b ≠ v5.ownBlock) /\ Hid (Below W0.heap.size W0 wr)) (fun v5 _ _ _ => K - slLen v5)
  case atStart => exact ⟨0, w1.heap.size, y, bs, Nat.zero_le _, rfl, rfl, hb1, HY, HT1, HR1, OwnI.nil _ _, (fun h => by cases h), HW1⟩
  case round =>
    clear HY HT1 HR1 HW1 HB1;obtain ⟨k, b, y, bs, hk, rfl, rfl, hbW, HY, HT, HR, HO, HNE, HB0⟩ := hrel;obtain ⟨w0, hw0⟩ : ∃ w0, wr = w0 := ⟨_, rfl⟩;rw [hw0] at HT HR HO HB0 |-;clear hw0
    cases bs with
    | false =>
      have HN : Hid (chainL l id k = chainL l id K) := by
        have h1 := HY.out.2
        cases e : curF l id k with
        | some x => rw [e] at h1; cases h1
        | none =>
          have := chainL_stop e (K - k);rw [show k + (K - k) = K by omega] at this;exact this.symm
      go_wp2;go_ret;exact ⟨_, rfl, own_base (by rw [<- HN.out]; exact HO.out) HB.out.size, HB.out.trans (HB0.out.mono HB.out.size)⟩
    | true =>
      have HX : Hid (curF l id k = some y) := by
        have h1 := HY.out
        cases e : curF l id k with
        | none => rw [e] at h1; cases h1.2
        | some x => rw [e] at h1; rw [<- h1.1]; rfl
      have HLT : Hid (k < K) := by
        show k < K;rcases Nat.lt_or_ge k K with h | h
        · exact h
        · exfalso
          have := curF_none HEND.out (k - K);rw [show K + (k - K) = k by omega, HX.out] at this
          cases this
      have HLN : Hid ((chainL l id k).length = k) := chainL_len (by rw [HX.out]; rfl);have hll := HLN.out;have HNXL := hI (chainL_next HX.out);obtain ⟨ll, hlq⟩ : ∃ ll, chainL l id k = ll := ⟨_, rfl⟩;rw [hlq] at HO HNXL hll;have hlt := HLT.out;have hsz := HB0.out.size;have c0 : w0.cell? ⟨b, 0, none⟩ = some (.int .i64 y.nid) := HR.out 0 _ rfl;clear hlq
      have HU : Hid (slLen u5 = k) := by
        obtain ⟨A, c, e, _⟩ := OwnI.form HO.out;rw [e];exact hll
      go_upto_region 6 with (at_builtin; refine wpList_appN2 rfl (.tmp 22) (.tmp 25) 32 rfl W0.heap.size 3 1 8 (.int .i64 0) info_int rfl (by omega) Tryz.underlying32 rfl HO.out rfl rfl (by simp [Value.oneCell']) (by omega) (by omega) (by omega) ?_; rintro v7 w4 hown7 hb7 hg7 hat7
                             have HO4 : Hid (OwnI w4 W0.heap.size v7 (ll ++ [y.nid])) := own_i hown7;have HB4 : Hid (Below W0.heap.size W0 w4) := HB0.out.trans hb7;have HR4 : Hid (w4.rangeAt b 0 (encN y)) := range_grown (range_grown HR.out (World.grownBy_alloc w0 _ none) (by simp)) hg7 HNE.out;clear hown7 hb7 hg7 hat7)
      clear c0 HO HR HNE;obtain ⟨A7, c7, hv7, _, _, _⟩ := OwnI.form HO4.out;have hl7 : (ll ++ [y.nid]).length = k + 1 := by rw [List.length_append, hll]; rfl
      rw [hl7] at hv7;subst hv7;have g4 := HR4.out;obtain ⟨q0, q1, q2, q3, q4, q5, q6⟩ := range7 g4;clear g4;go_upto_region 4 with fail
      obtain ⟨w5, hw5⟩ : ∃ w5, w4.alloc (.cells #[.int .i64 y.nid, .int .i64 y.tier, .int .i64 y.parent, .int .i64 y.at1, .int .i64 y.at2, .int .i64 y.rank, .string y.text] 58) = w5 := ⟨_, rfl⟩;have HB5 : Hid (Below W0.heap.size W0 w5) := by rw [<- hw5]; exact HB4.out.alloc HB4.out.size _
      have HO5 : Hid (OwnI w5 W0.heap.size (.slice A7 (k + 1) c7) (ll ++ [y.nid])) := by rw [<- hw5]; exact World.ownsRow.alloc HO4.out _
      have HT5 : Hid (w5.there w4.heap.size 0 7) := by rw [<- hw5]; exact there_new w4 _ _
      have p2 : w5.cell? ⟨w4.heap.size, 2, none⟩ = some (.int .i64 y.parent) := by rw [<- hw5, World.cell?_alloc_new]; rfl
      have hz5 : w5.heap.size = w4.heap.size + 1 := by rw [<- hw5]; simp
      have HFR : Hid (some w4.heap.size ≠ (Value.slice A7 (k + 1) c7).ownBlock) := fun e => by
        have := (World.ownsRow.lt HO4.out _ e.symm).2;omega
      have hw4 := HB4.out.size;(try rw [hw5])
      clear hw5 q0 q1 q2 q3 q4 q5 q6 HO4 HR4;have hg5 := HK.out w5 HB5.out;obtain ⟨k0, k1, k2, k3, k4, k5, k6⟩ := range7 hg5;have HGP := hI (HG.out w5 (HB.out.trans (HB5.out.mono HB.out.size)) y.parent);unfold getV noteV at HGP;have HCN := hI (curF_next HX.out);obtain ⟨z, hzq⟩ : ∃ z, (getN l y.parent).getD nt0 = z := ⟨_, rfl⟩;obtain ⟨bz, hbz⟩ : ∃ bz, (getN l y.parent).isSome = bz := ⟨_, rfl⟩;have HYN : Hid ((curF l id (k + 1)).getD nt0 = z /\ (curF l id (k + 1)).isSome = bz) := by rw [HCN.out]; exact ⟨hzq, hbz⟩
      rw [hzq, hbz] at HGP;clear hg5 hzq hbz HCN;go_wp2_with fail
      refine HGP.out.mono ?_;rintro e w6 ⟨rfl, hb6⟩;have HT6 : Hid (w6.there w4.heap.size 0 7) := there_below hb6 (by omega) HT5.out;have HO6 := hI (HO5.out.on hb6);have HB6 : Hid (Below W0.heap.size W0 w6) := HB5.out.trans (hb6.mono HB5.out.size);have hz6 : w4.heap.size < w6.heap.size := by have := hb6.size; omega
      clear hb6 k0 k1 k2 k3 k4 k5 k6 p2 HGP HO5 HT5;have hX := hI (BelowX.set w6 w4.heap.size (#[.int .i64 z.nid, .int .i64 z.tier, .int .i64 z.parent, .int .i64 z.at1, .int .i64 z.at2, .int .i64 z.rank, .string z.text] : Array Value).toList);have hRS := hI (World.rangeAt_setCells_same w6 w4.heap.size 0 (#[.int .i64 z.nid, .int .i64 z.tier, .int .i64 z.parent, .int .i64 z.at1, .int .i64 z.at2, .int .i64 z.rank, .string z.text] : Array Value).toList HT6.out);obtain ⟨wS, hwS⟩ : ∃ wS, w6.setCells w4.heap.size 0 (#[.int .i64 z.nid, .int .i64 z.tier, .int .i64 z.parent, .int .i64 z.at1, .int .i64 z.at2, .int .i64 z.rank, .string z.text] : Array Value).toList = wS := ⟨_, rfl⟩;rw [hwS] at hX hRS;have HBS : Hid (Below W0.heap.size W0 wS) := HB6.out.trans (hX.out.below hw4 HB6.out.size)
      have HOS : Hid (OwnI wS W0.heap.size (.slice A7 (k + 1) c7) (ll ++ [y.nid])) := by
        refine World.ownsRow.kept (row := some w4.heap.size) HO6.out ⟨hX.out.os, hX.out.tape, hX.out.output, hX.out.size, fun j hj hne => hX.out.block j hj fun e => hne (by rw [e])⟩ ?_;exact .inr fun e => HFR.out e.symm
      have HTS : Hid (w4.heap.size < wS.heap.size) := by have := hX.out.size; show _ < _; omega
      go_wp2_with (refine wpList_store_mid rfl 58 (.tmp 6) (.tmp 20) rfl w4.heap.size 0 #[.int .i64 z.nid, .int .i64 z.tier, .int .i64 z.parent, .int .i64 z.at1, .int .i64 z.at2, .int .i64 z.rank, .string z.text] rfl rfl HT6.out (by kernel_rfl) (by simp [Value.oneCell']) ?_; rw [hwS])
      go_roundw
      case rel => exact ⟨k + 1, w4.heap.size, z, bz, HLT.out, rfl, rfl, hw4, HYN, HTS, hRS, (by rw [HNXL.out]; exact HOS), HFR, HBS⟩
      case measure =>
        have h1 := HLT.out;have h2 := HU.out;show K - (k + 1) < K - slLen _;omega
end
end Go.Proofs.YthcabnfcgjnlnaaGreatDoor
namespace Go.Proofs
open Go.Shelf
def Tryz.lays107_ren : Go.Shelf.Ren := ⟨fun | 107 => 89 | 108 => 113 | n => n, fun | 0 => 0 | 3 => 3 | 4 => 4 | 28 => 32 | n => n, fun | n => n⟩
theorem Tryz.lays107 : Go.Proofs.Lays.n107 Tryz.prog Tryz.lays107_ren := {
 mixed := by kernel_rfl
 f107 := Tryz.func89.trans (congrArg some (by kernel_rfl))
 f108 := Tryz.func113.trans (congrArg some (by kernel_rfl))
 t0 := Tryz.underlying0
 a0 := Tryz.isAgg0
 z0 := Tryz.sizeOf0
 v0 := Tryz.zeroValue0
 t3 := Tryz.underlying3
 a3 := Tryz.isAgg3
 z3 := Tryz.sizeOf3
 v3 := Tryz.zeroValue3
 t4 := Tryz.underlying4
 a4 := Tryz.isAgg4
 z4 := Tryz.sizeOf4
 v4 := Tryz.zeroValue4
 t28 := Tryz.underlying32
 a28 := Tryz.isAgg32
 z28 := Tryz.sizeOf32
 v28 := Tryz.zeroValue32 }
theorem Tryz.slices_Contains_int (b off n c : Nat) (zs : List Int) (x : Int) (w : World) (hz : n <= zs.length) (hbig : n <= 9223372036854775807) (hc : ∀ j, j < zs.length -> w.cell? ⟨b, off + j, none⟩ = some (.int .i64 (zs.getD j 0))) :
  Calls Tryz.prog 89 #[.slice (some ⟨b, off, none⟩) n c, .int .i64 x] w fun e w' => e = .returned (.bool ((zs.take n).contains x)) /\ w' = w := Any.slices_Contains_int Tryz.lays107 b off n c zs x w hz hbig hc
theorem Tryz.slices_Contains_int_empty (a : Option Addr) (c : Nat) (x : Int) (w : World) :
  Calls Tryz.prog 89 #[.slice a 0 c, .int .i64 x] w fun e w' => e = .returned (.bool false) /\ w' = w := Any.slices_Contains_int_empty Tryz.lays107 a c x w
def Tryz.lays171_ren : Go.Shelf.Ren := ⟨fun | 129 => 163 | 171 => 79 | 243 => 105 | 246 => 129 | 283 => 147 | 284 => 148 | 285 => 149 | 286 => 150 | 317 => 162 | 318 => 164 | 319 => 165 | 320 => 166 | 337 => 173 | 338 => 174 | n => n, fun | 0 => 0 | 2 => 2 | 3 => 3 | 4 => 4 | 5 => 5 | 9 => 9 | 20 => 20 | 37 => 94 | 46 => 170 | 51 => 191 | 53 => 180 | 171 => 179 | 173 => 183 | 212 => 198 | 213 => 199 | 232 => 205 | 233 => 206 | n => n, fun | 17 => 3 | 18 => 4 | 19 => 5 | n => n⟩
theorem Tryz.lays171 : Go.Proofs.LaysM.n171 Tryz.prog Tryz.lays171_ren := {
 mixed := by kernel_rfl
 f129 := Tryz.func163.trans (congrArg some (by kernel_rfl))
 f171 := Tryz.func79.trans (congrArg some (by kernel_rfl))
 f243 := Tryz.func105.trans (congrArg some (by kernel_rfl))
 f246 := Tryz.func129.trans (congrArg some (by kernel_rfl))
 f283 := Tryz.func147.trans (congrArg some (by kernel_rfl))
 f284 := Tryz.func148.trans (congrArg some (by kernel_rfl))
 f285 := Tryz.func149.trans (congrArg some (by kernel_rfl))
 f286 := Tryz.func150.trans (congrArg some (by kernel_rfl))
 f317 := Tryz.func162.trans (congrArg some (by kernel_rfl))
 f318 := Tryz.func164.trans (congrArg some (by kernel_rfl))
 f319 := Tryz.func165.trans (congrArg some (by kernel_rfl))
 f320 := Tryz.func166.trans (congrArg some (by kernel_rfl))
 f337 := Tryz.func173.trans (congrArg some (by kernel_rfl))
 f338 := Tryz.func174.trans (congrArg some (by kernel_rfl))
 t0 := Tryz.underlying0
 a0 := Tryz.isAgg0
 z0 := Tryz.sizeOf0
 v0 := Tryz.zeroValue0
 t2 := Tryz.underlying2
 a2 := Tryz.isAgg2
 z2 := Tryz.sizeOf2
 v2 := Tryz.zeroValue2
 t3 := Tryz.underlying3
 a3 := Tryz.isAgg3
 z3 := Tryz.sizeOf3
 v3 := Tryz.zeroValue3
 t4 := Tryz.underlying4
 a4 := Tryz.isAgg4
 z4 := Tryz.sizeOf4
 v4 := Tryz.zeroValue4
 t5 := Tryz.underlying5
 a5 := Tryz.isAgg5
 z5 := Tryz.sizeOf5
 v5 := Tryz.zeroValue5
 t9 := Tryz.underlying9
 a9 := Tryz.isAgg9
 z9 := Tryz.sizeOf9
 v9 := Tryz.zeroValue9
 t20 := Tryz.underlying20
 a20 := Tryz.isAgg20
 z20 := Tryz.sizeOf20
 v20 := Tryz.zeroValue20
 t37 := Tryz.underlying94
 a37 := Tryz.isAgg94
 z37 := Tryz.sizeOf94
 v37 := Tryz.zeroValue94
 t46 := Tryz.underlying170
 a46 := Tryz.isAgg170
 z46 := Tryz.sizeOf170
 v46 := Tryz.zeroValue170
 t51 := Tryz.underlying191
 a51 := Tryz.isAgg191
 z51 := Tryz.sizeOf191
 v51 := Tryz.zeroValue191
 t53 := Tryz.underlying180
 a53 := Tryz.isAgg180
 z53 := Tryz.sizeOf180
 v53 := Tryz.zeroValue180
 t171 := Tryz.underlying179
 a171 := Tryz.isAgg179
 z171 := Tryz.sizeOf179
 v171 := Tryz.zeroValue179
 t173 := Tryz.underlying183
 a173 := Tryz.isAgg183
 z173 := Tryz.sizeOf183
 v173 := Tryz.zeroValue183
 t212 := Tryz.underlying198
 a212 := Tryz.isAgg198
 z212 := Tryz.sizeOf198
 v212 := Tryz.zeroValue198
 t213 := Tryz.underlying199
 a213 := Tryz.isAgg199
 z213 := Tryz.sizeOf199
 t232 := Tryz.underlying205
 a232 := Tryz.isAgg205
 z232 := Tryz.sizeOf205
 v232 := Tryz.zeroValue205
 t233 := Tryz.underlying206
 a233 := Tryz.isAgg206
 z233 := Tryz.sizeOf206
 v233 := Tryz.zeroValue206
 g17 := by kernel_rfl
 g18 := by kernel_rfl
 g19 := by kernel_rfl
 i0 := by kernel_rfl
 i2 := by kernel_rfl
 i3 := by kernel_rfl
 i4 := by kernel_rfl
 i5 := by kernel_rfl
 i9 := by kernel_rfl
 i20 := by kernel_rfl
 i37 := by kernel_rfl
 i46 := by kernel_rfl
 i51 := by kernel_rfl
 i53 := by kernel_rfl
 i171 := by kernel_rfl
 i173 := by kernel_rfl
 i212 := by kernel_rfl
 i232 := by kernel_rfl
 i233 := by kernel_rfl
 m17 := by kernel_rfl
 m18 := by kernel_rfl
 m19 := by kernel_rfl }
theorem Tryz.strconv_Itoa (n : Int) (h0 : -9223372036854775808 <= n) (h1 : n <= 9223372036854775807) (w : World) (htab : Lib.TabIs Tryz.prog w "internal/strconv.uint64pow10" .u64 Lib.pow10Tab) :
  Calls Tryz.prog 79 #[.int .i64 n] w fun e w' => e = .returned (.string ⟨(Lib.itoa n).toArray⟩) /\ ∃ k os, w' = Sort.grow (w.drewN k) os := Any.strconv_Itoa Tryz.lays171 n h0 h1 w htab
end Go.Proofs
namespace Go.Proofs.YthcabnfcgjnlnaaGreatDoor
section
open Go.RowKit Ru Lay
attribute [local go_sem ↓] Go.wp_at_zero Go.wp_at_succ
def roleF (r : Int) : List Ti -> Nat -> Int
 | [], _ => -1
 | t :: T, k => if r ≠ 0 /\ t.role = r then (k : Int) else roleF r T (k + 1)
def roleT (T : List Ti) (r : Int) : Int := roleF r T 0
theorem roleF_step {T : List Ti} {r : Int} {i : Nat} {x : Ti} (h : T[i]? = some x) : roleF r (T.drop i) i = if r ≠ 0 /\ x.role = r then (i : Int) else roleF r (T.drop (i + 1)) (i + 1) := by
 have hi := (List.getElem?_eq_some_iff.1 h).1;rw [List.drop_eq_getElem_cons hi, (List.getElem?_eq_some_iff.1 h).2];rfl
theorem roleF_some {r : Int} : ∀ (T : List Ti) (k : Nat), roleF r T k = -1 ∨ ∃ i t, T[i]? = some t /\ roleF r T k = ((k + i : Nat) : Int) /\ t.role = r /\ r ≠ 0
 | [], _ => .inl rfl
 | t :: T, k => by
  unfold roleF;by_cases h : r ≠ 0 /\ t.role = r
  ·rw [if_pos h]; exact .inr ⟨0, t, rfl, rfl, h.2, h.1⟩
  ·rw [if_neg h];rcases roleF_some T (k + 1) with e | ⟨i, u, h1, h2, h3⟩
   ·exact .inl e
   ·exact .inr ⟨i + 1, u, h1, by rw [h2]; omega, h3⟩
theorem roleT_some (T : List Ti) (r : Int) : roleT T r = -1 ∨ (0 <= roleT T r /\ roleT T r < (T.length : Int) /\ (tierT T (roleT T r)).role = r /\ r ≠ 0) := by
 rcases roleF_some (r := r) T 0 with e | ⟨i, t, h1, h2, h3, h4⟩
 ·exact .inl e
 ·have hi := (List.getElem?_eq_some_iff.1 h1).1;have e : roleT T r = (i : Int) := by unfold roleT; rw [h2]; omega
  rw [e];refine .inr ⟨by omega, by omega, ?_, h4⟩;unfold tierT;rw [List.getD, Int.toNat_natCast, h1];exact h3
set_option maxHeartbeats 2000000 in
theorem role_any (A : Option Addr) (n c : Nat) (T : List Ti) (r : Int) (w : World) (hT : TiersR w w.heap.size A n T) (hn : n <= 9223372036854775807) :
  Calls Tryz.prog 44 #[.slice A n c, .int .i64 r] w fun e w' => e = .returned (.int .i64 (roleT T r)) /\ Below w.heap.size w w' := by
 have HT := hI hT;have HTN := hI hT.len;clear hT;go_enter Tryz.func44, Tryz.ntmps44
 go_wp2_with fail
 go_loopw [5, 6, 9] (fun v5 v6 v9 wr => ∃ i : Nat, i <= n /\ v9 = .int .i64 i /\ Hid (roleT T r = roleF r (T.drop i) i) /\ Hid (Below w.heap.size w wr)) (fun _ _ v9 _ => n - (intOf v9).toNat)
 case atStart => exact ⟨0, Nat.zero_le _, rfl, hI rfl, Below.refl _ _⟩
 case round =>
  obtain ⟨i, hi, rfl, HR, HB⟩ := hrel;obtain ⟨w0, hw0⟩ : ∃ w0, wr = w0 := ⟨_, rfl⟩;rw [hw0] at HB |-;clear hw0;by_cases hlt : i < n
  ·have hiz : (i : Int) < (n : Int) := by omega
   have hiA : (0 : Int) <= (i : Int) := by omega
   obtain ⟨ad, x, rfl, hab, hx, _, hcells⟩ := HT.out.at_ hlt;obtain ⟨q0, q1, q2, q3⟩ := hcells w0 HB.out;have HLT := hI hlt;have HST := hI (roleF_step (r := r) hx);have HB1 : Hid (Below w.heap.size w (w0.alloc (.cells #[.string x.name, .int .i64 x.kind, .int .i64 x.role, .int .i64 x.parent] 86))) := HB.out.alloc HB.out.size _;obtain ⟨xn, xk, xr, xp⟩ := x;simp only at *;clear hx hcells;by_cases r0 : r = 0
   ·have b0 : (r != 0) = false := by rw [bne_eq_false_iff_eq]; exact r0
    have HN : Hid (roleT T r = roleF r (T.drop (i + 1)) (i + 1)) := by
     have h := HR.out;rw [HST.out, if_neg fun h => h.1 r0] at h;exact h
    clear HST HR r0 HB;go_wp2;go_roundw
    case rel => exact ⟨i + 1, HLT.out, by go_num, HN, HB1⟩
    case measure => have := HLT.out; simp [intOf]; omega
   ·have b0 : (r != 0) = true := bne_iff_ne.2 r0;by_cases e : xr = r
    ·have b1 : (xr == r) = true := beq_iff_eq.2 e
     have HN : Hid (roleT T r = (i : Int)) := by
      have h := HR.out;rw [HST.out, if_pos ⟨r0, e⟩] at h;exact h
     clear HST HR r0 e HB;go_wp2;go_ret;exact ⟨by rw [HN.out]; rfl, HB1.out⟩
    ·have b1 : (xr == r) = false := beq_eq_false_iff_ne.2 e
     have HN : Hid (roleT T r = roleF r (T.drop (i + 1)) (i + 1)) := by
      have h := HR.out;rw [HST.out, if_neg fun h => e h.2] at h;exact h
     clear HST HR r0 e HB;go_wp2;go_roundw
     case rel => exact ⟨i + 1, HLT.out, by go_num, HN, HB1⟩
     case measure => have := HLT.out; simp [intOf]; omega
  ·obtain rfl : n = i := by omega
   have hiz : ¬ (n : Int) < (n : Int) := by omega
   have HN : Hid (roleT T r = -1) := by
    have h := HR.out;rw [List.drop_of_length_le (by rw [HTN.out]; exact Nat.le_refl _)] at h;exact h
   go_wp2;go_ret;exact ⟨by rw [HN.out]; rfl, HB.out⟩
set_option maxHeartbeats 2000000 in
theorem has_any (base : Nat) (v : Value) (l : List Int) (x : Int) (w : World) (hl : OwnI w base v l) :
  Calls Tryz.prog 57 #[v, .int .i64 x] w fun e w' => e = .returned (.bool (decide (x ∈ l))) /\ w = w' := by
 have HC : Hid (Calls Tryz.prog 89 #[v, .int .i64 x] w fun e w' => e = .returned (.bool (decide (x ∈ l))) /\ w' = w) := by
  obtain ⟨A, c, rfl, h1, h2, h3⟩ := OwnI.form hl;rcases Nat.eq_zero_or_pos l.length with h0 | h0
  ·have : l = [] := List.eq_nil_of_length_eq_zero h0;subst this;refine (Tryz.slices_Contains_int_empty A c x w).mono ?_;rintro e w1 ⟨rfl, rfl⟩;exact ⟨by simp, rfl⟩
  ·rcases hl.2 with ⟨_, h4⟩ | ⟨g, cap, cur, hv, _⟩
   ·have : l.length = 0 := h4;omega
   ·injection hv with hv1 hv2 hv3
    subst hv1
    refine (Tryz.slices_Contains_int g 0 l.length c l x w (Nat.le_refl _) (by omega) (fun j hj => by
     obtain ⟨ad, e, _, hc⟩ := h3.2 (by omega)
     cases e;have := hc j (.int .i64 (l.getD j 0)) (by rw [List.getElem?_map, List.getD, List.getElem?_eq_getElem hj]; rfl);rw [Addr.add_mid] at this;exact this)).mono ?_
    rintro e w1 ⟨rfl, rfl⟩;exact ⟨by rw [List.take_length, List.contains_eq_mem], rfl⟩
 clear hl;go_enter Tryz.func57, Tryz.ntmps57
 go_wp2_with fail
 refine HC.out.mono ?_;rintro e w1 ⟨rfl, rfl⟩;go_wp2;go_ret;exact ⟨rfl, rfl⟩
def indB (s : ByteArray) : ByteArray := if s.size = 0 then ⟨#[]⟩ else ⟨#[32, 32, 32, 32]⟩ ++ s
set_option maxHeartbeats 2000000 in
theorem indented_any (s : ByteArray) (w : World) (hs : s.size <= 1000000000) :
    Calls Tryz.prog 51 #[.string s] w fun e w' => e = .returned (.string (indB s)) /\ w = w' := by
  by_cases h0 : s.size = 0
  · have h1 : s = ⟨#[]⟩ := by
      cases s with | mk d => rw [show d = #[] from Array.eq_empty_of_size_eq_zero h0]
    have HR : Hid (indB s = ⟨#[]⟩) := if_pos h0;have HS := hI h1;clear h0;subst h1;go_enter Tryz.func51, Tryz.ntmps51
    go_wp2;go_ret;exact ⟨by rw [HR.out]; rfl, rfl⟩
  · have hne : s.toList.isEmpty = false := by
      rw [Lib.toList_data]
      cases h : s.data.toList with
      | nil => exfalso; apply h0; show s.data.size = 0; rw [<- Array.length_toList, h]; rfl
      | cons a t => rfl
    have HR : Hid (indB s = ⟨#[32, 32, 32, 32]⟩ ++ s) := if_neg h0;clear h0;go_enter Tryz.func51, Tryz.ntmps51
    go_wp2;go_ret;exact ⟨by rw [HR.out]; rfl, rfl⟩
end
section
open Go.RowKit Ru Lay Srt Col
theorem DocOk.up {T : List Ti} {l : List Nt} (h : DocOk T l) : TierUp T := fun t h0 h1 hk => by
 rcases (h.at_ h0 h1).1.2 with ⟨e, _⟩ | ⟨_, h2, h3⟩
 ·exact absurd e hk
 ·exact ⟨h2, by omega⟩
theorem getN_zero {T : List Ti} {l : List Nt} (h : LightN T l) (hz : getN l 0 = none) {x : Nt} (hx : x ∈ l) : getN l x.parent = none ∨ ∃ p, getN l x.parent = some p /\ p ∈ l /\ p.tier < x.tier := by
 rcases h.par x hx with ⟨_, e⟩ | ⟨_, p, h1, h2, h3⟩
 ·rw [e]; exact .inl hz
 ·exact .inr ⟨p, h1, (getN_mem h1).1, h3⟩
theorem curF_ends {T : List Ti} {l : List Nt} (h : LightN T l) (hz : getN l 0 = none) (id : Int) : ∀ k, curF l id k = none ∨ ∃ x, curF l id k = some x /\ x ∈ l /\ x.tier + (k : Int) < (T.length : Int)
 | 0 => by
  show getN l id = none ∨ _
  cases e : getN l id with
  | none => exact .inl rfl
  | some x =>
   have hx := (getN_mem e).1;have := (h.tier x hx).2;exact .inr ⟨x, e, hx, by omega⟩
 | k + 1 => by
  rcases curF_ends h hz id k with e | ⟨x, e, hx, ht⟩
  ·exact .inl (curF_none e 1)
  ·rw [curF_next e];rcases getN_zero h hz hx with g | ⟨p, g, hp, hlt⟩
   ·exact .inl g
   ·exact .inr ⟨p, g, hp, by omega⟩
theorem curF_stop {T : List Ti} {l : List Nt} (h : LightN T l) (hz : getN l 0 = none) (id : Int) : curF l id T.length = none := by
 rcases curF_ends h hz id T.length with e | ⟨x, e, hx, ht⟩
 ·exact e
 ·have := (h.tier x hx).1;omega
theorem DocOk.zero {T : List Ti} {l : List Nt} (h : DocOk T l) : getN l 0 = none := by
 unfold getN;rw [List.find?_eq_none];intro x hx;obtain ⟨i, hi⟩ := List.getElem?_of_mem hx;have h1 := (h.notes i (List.getElem?_eq_some_iff.1 hi).1 x hi).1;simp
 omega
theorem DocOk.stop {T : List Ti} {l : List Nt} (h : DocOk T l) (id : Int) : curF l id T.length = none := curF_stop h.light h.zero id
end
end Go.Proofs.YthcabnfcgjnlnaaGreatDoor
