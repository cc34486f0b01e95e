import Derived.Test.YthcabnfcgjnlnaaGreatDoorB05
import Derived.Deep.MidRow
import Derived.Deep.Upon
import Derived.Deep.LoopGhost
import Derived.BigRegion
import Derived.Deep.RegionHeld3
import Derived.Shelf.Abstract
set_option linter.unusedVariables false
set_option linter.unusedSimpArgs false
namespace Go.Proofs.YthcabnfcgjnlnaaGreatDoor
section
open Go.RowKit
structure SK {α : Type} (enc : α -> List Value) (s : Nat) (w0 : World) (blk off n : Nat) (d : Nat -> α) (W : World) : Prop where
 os : W.os = w0.os
 tape : W.tape = w0.tape
 output : W.output = w0.output
 size : w0.heap.size <= W.heap.size
 block : ∀ k, k < w0.heap.size -> k ≠ blk -> W.heap[k]? = w0.heap[k]?
 lt : blk < w0.heap.size
 cells : ∀ j, j < n -> W.rangeAt blk (off + j * s) (enc (d j))
 there : W.there blk off (n * s)
 obj : ∃ c c' e fr, w0.heap[blk]? = some (.cells c e fr) /\ W.heap[blk]? = some (.cells c' e fr) /\ c'.size = c.size /\ ∀ k, (k < off ∨ off + n * s <= k) -> c'[k]? = c[k]?
theorem heap_setCells_self (b : Nat) : ∀ (vs : List Value) (o : Nat) (w : World) (c : Array Value) (e : TypeId) (fr : Nat × Nat), w.heap[b]? = some (.cells c e fr) ->
  ∃ c', (w.setCells b o vs).heap[b]? = some (.cells c' e fr) /\ c'.size = c.size /\ ∀ k, (k < o ∨ o + vs.length <= k) -> c'[k]? = c[k]?
 | [], o, w, c, e, fr, h => ⟨c, h, rfl, fun _ _ => rfl⟩
 | v :: r, o, w, c, e, fr, h => by
  have h1 : (w.setCell ⟨b, o, none⟩ v).heap[b]? = some (.cells (c.setIfInBounds o v) e fr) := by simp [World.setCell, Array.getElem?_modify, h]
  obtain ⟨c', h2, h3, h4⟩ := heap_setCells_self b r (o + 1) (w.setCell ⟨b, o, none⟩ v) _ e fr h1;refine ⟨c', h2, by rw [h3]; simp, fun k hk => ?_⟩;rw [h4 k (by simp at hk; omega), Array.getElem?_setIfInBounds, if_neg (by simp at hk; omega)]
theorem size_setCells (b : Nat) : ∀ (vs : List Value) (o : Nat) (w : World), (w.setCells b o vs).heap.size = w.heap.size
 | [], _, _ => rfl
 | v :: r, o, w => by
  show ((w.setCell ⟨b, o, none⟩ v).setCells b (o + 1) r).heap.size = _;rw [size_setCells b r (o + 1)];simp
theorem tape_setCells (b : Nat) : ∀ (vs : List Value) (o : Nat) (w : World), (w.setCells b o vs).tape = w.tape
 | [], _, _ => rfl
 | v :: r, o, w => by
  show ((w.setCell ⟨b, o, none⟩ v).setCells b (o + 1) r).tape = _;rw [tape_setCells b r (o + 1)];rfl
section
variable {α : Type} {enc : α → List Value} {s : Nat} {w0 W W' : World} {blk off n : Nat} {d : Nat → α}
theorem SK.below (h : SK enc s w0 blk off n d W) (hb : Below W.heap.size W W') : SK enc s w0 blk off n d W' := by
 have hlt : blk < W.heap.size := Nat.lt_of_lt_of_le h.lt h.size
 refine ⟨hb.os.trans h.os, hb.tape.trans h.tape, hb.output.trans h.output, Nat.le_trans h.size hb.size, fun k hk hn => (hb.block k (Nat.lt_of_lt_of_le hk h.size)).trans (h.block k hk hn), h.lt,
  fun j hj i v hv => (hb.cell (p := ⟨blk, off + j * s + i, none⟩) hlt).trans (h.cells j hj i v hv), fun j hj => ?_, ?_⟩
 ·obtain ⟨h1, h2⟩ := h.there j hj;exact ⟨by rw [hb.cell (p := ⟨blk, off + j, none⟩) hlt]; exact h1, (hb.frozen (p := ⟨blk, off + j, none⟩) hlt).trans h2⟩
 ·obtain ⟨c, c', e, fr, h1, h2, h3, h4⟩ := h.obj;exact ⟨c, c', e, fr, h1, (hb.block blk hlt).trans h2, h3, h4⟩
theorem SK.drewN (h : SK enc s w0 blk off n d W) (k : Nat) : SK enc s w0 blk off n d (W.drewN k) := h.below (below_drewN bR k)
theorem SK.drew (h : SK enc s w0 blk off n d W) : SK enc s w0 blk off n d W.drew := h.drewN 1
theorem SK.room (h : SK enc s w0 blk off n d W) {j : Nat} (hj : j < n) : W.there blk (off + j * s) s := fun i hi => by
 have h1 : j * s + i < n * s := by
  have : (j + 1) * s <= n * s := Nat.mul_le_mul_right s hj;rw [Nat.add_mul] at this;omega
 have := h.there (j * s + i) h1;rw [show off + (j * s + i) = off + j * s + i by omega] at this;exact this
theorem SK.store (hl : ∀ x, (enc x).length = s) (h : SK enc s w0 blk off n d W) {i : Nat} (hi : i < n) (x : α) : SK enc s w0 blk off n (upd d i x) (W.setCells blk (off + i * s) (enc x)) := by
 obtain ⟨c, c', e, fr, h1, h2, h3, h4⟩ := h.obj;obtain ⟨c2, g1, g2, g3⟩ := heap_setCells_self blk (enc x) (off + i * s) W c' e fr h2
 have hend : i * s + s <= n * s := by
  have : (i + 1) * s <= n * s := Nat.mul_le_mul_right s hi;rw [Nat.add_mul] at this;omega
 refine ⟨(World.os_setCells _ _ _ _).trans h.os, (tape_setCells _ _ _ _).trans h.tape, (World.output_setCells _ _ _ _).trans h.output, by rw [size_setCells]; exact h.size, fun k hk hn => ?_, h.lt, fun j hj => ?_, World.there_setCells h.there _ _ _, c, c2, e, fr, h1, g1, by rw [g2]; exact h3, fun k hk => ?_⟩
 ·rw [World.heap_setCells_other _ _ _ _ (Nat.lt_of_lt_of_le hk h.size) hn];exact h.block k hk hn
 ·by_cases e2 : j = i
  ·subst e2;have : upd d j x j = x := by simp [upd]
   rw [this];exact World.rangeAt_setCells_same _ _ _ _ (by rw [hl]; exact h.room hj)
  ·have : upd d i x j = d j := by simp [upd, e2]
   rw [this];refine World.rangeAt_setCells_apart (h.cells j hj) _ _ _ (.inr ?_);rw [hl, hl];rcases Nat.lt_or_gt_of_ne e2 with h5 | h5
   ·have : (j + 1) * s <= i * s := Nat.mul_le_mul_right s h5;rw [Nat.add_mul] at this;omega
   ·have : (i + 1) * s <= j * s := Nat.mul_le_mul_right s h5;rw [Nat.add_mul] at this;omega
 ·rw [g3 k (by rw [hl]; omega)];exact h4 k hk
theorem SK.swapped (hl : ∀ x, (enc x).length = s) (h : SK enc s w0 blk off n d W) {i j : Nat} (hi : i < n) (hj : j < n) :
  SK enc s w0 blk off n (swpF d i j) ((W.setCells blk (off + i * s) (enc (d j))).setCells blk (off + j * s) (enc (d i))) := (h.store hl hi (d j)).store hl hj (d i)
theorem SK.congr (h : SK enc s w0 blk off n d W) {d' : Nat -> α} (hd : ∀ j, j < n -> d' j = d j) : SK enc s w0 blk off n d' W :=
 ⟨h.os, h.tape, h.output, h.size, h.block, h.lt, fun j hj => by rw [hd j hj]; exact h.cells j hj, h.there, h.obj⟩
theorem SK.belowBase (h : SK enc s w0 blk off n d W) {B : Nat} (hB : B <= blk) : Below B w0 W :=
 ⟨h.os, h.tape, h.output, h.size, fun k hk => h.block k (by have := h.lt; omega) (by omega)⟩
theorem SK.start {base c : Nat} {e : TypeId} {l : List α} {g : Nat} (hl : ∀ x, (enc x).length = s) (hs : 0 < s) (h : OwnR enc s e w0 base (.slice (some ⟨g, 0, none⟩) l.length c) l) (hd : ∀ j x, l[j]? = some x -> d j = x) : SK enc s w0 g 0 l.length d w0 := by
 have hlt := (h.lt g rfl).2;have hobj := h.2;refine ⟨rfl, rfl, rfl, Nat.le_refl _, fun _ _ _ => rfl, hlt, fun j hj i v hv => ?_, fun k hk => ?_, ?_⟩
 ·have hx : l[j]? = some l[j] := List.getElem?_eq_getElem hj;have his : i < s := by have := (List.getElem?_eq_some_iff.1 hv).1; rw [hl] at this; exact this
  rw [hd j _ hx] at hv
  have h1 : j * s + i < l.length * s := by
   have : (j + 1) * s <= l.length * s := Nat.mul_le_mul_right s hj;rw [Nat.add_mul] at this;omega
  rw [Nat.zero_add, World.ownsRow.cellAt h (j * s + i) h1, flat_at hl hx his];exact hv
 ·refine ⟨?_, by rw [Nat.zero_add]; exact World.ownsRow.frozenAt h k⟩;rw [Nat.zero_add, World.ownsRow.cellAt h k hk, List.getElem?_eq_getElem (by rw [flat_len hl]; exact hk)];rfl
 ·rcases hobj with ⟨h1, _⟩ | ⟨g', cap, cur, hv, hg, hh, _⟩
  ·cases h1
  ·cases hv;exact ⟨cur, cur, e, _, hh, hh, rfl, fun _ _ => rfl⟩
theorem SK.owned {base c : Nat} {e : TypeId} {l l' : List α} {g : Nat} (hl : ∀ x, (enc x).length = s) (hs : 0 < s) (h : SK enc s w0 g 0 l.length d W) (ho : OwnR enc s e w0 base (.slice (some ⟨g, 0, none⟩) l.length c) l) (hn : l'.length = l.length) (hd : ∀ j, j < l.length -> l'[j]? = some (d j)) :
  OwnR enc s e W base (.slice (some ⟨g, 0, none⟩) l.length c) l' := by
 refine ⟨by rw [flat_len hl, hn], ?_⟩;rcases ho.2 with ⟨h1, _⟩ | ⟨g', cap, cur, hv, hg, hh, hnc, hm, hsz, ht⟩
 ·cases h1
 ·cases hv;obtain ⟨c1, c', e', fr, h1, h2, h3, h4⟩ := h.obj;rw [hh] at h1
  cases h1;refine .inr ⟨g, c, c', by rw [hn], hg, h2, by rw [hn]; exact hnc, hm, by rw [h3]; exact hsz, ?_⟩;rw [hn];apply List.ext_getElem?
  intro k;by_cases hk : k < l.length * s
  ·have hj : k / s < l.length := (Nat.div_lt_iff_lt_mul hs).2 hk;have hkm : k / s * s + k % s = k := by have := Nat.div_add_mod k s; rw [Nat.mul_comm] at this; exact this
   have hm2 : k % s < s := Nat.mod_lt _ hs;have hx := hd (k / s) hj;have hf := flat_at (f := enc) hl hx hm2;rw [hkm] at hf;have hxe : (enc (d (k / s)))[k % s]? = some ((enc (d (k / s)))[k % s]'(by rw [hl]; exact hm2)) := List.getElem?_eq_getElem _;have hc := h.cells (k / s) hj (k % s) _ hxe;rw [Nat.zero_add, hkm] at hc;simp only [World.cell?, h2] at hc;rw [hf, hxe, List.getElem?_take, if_pos hk];simpa using hc
  ·rw [List.getElem?_eq_none (by rw [List.length_take]; omega), List.getElem?_eq_none (by rw [flat_len hl, hn]; omega)]
end
end
section
open Go.RowKit Srt Col
def CmpOKN (g : Nat) (cb : Array Value) (c : Nt -> Nt -> Int) (Q : Nt -> Prop) (w0 : World) (blk off n : Nat) : Prop :=
 ∀ (W : World) (d : Nat -> Tag Nt), SK (fun p : Tag Nt => encN p.1) 7 w0 blk off n d W -> ∀ x y : Nt, Q x -> Q y -> ∀ p : BW W,
  Calls Tryz.prog g (#[.agg #[.int .i64 x.nid, .int .i64 x.tier, .int .i64 x.parent, .int .i64 x.at1, .int .i64 x.at2, .int .i64 x.rank, .string x.text], .agg #[.int .i64 y.nid, .int .i64 y.tier, .int .i64 y.parent, .int .i64 y.at1, .int .i64 y.at2, .int .i64 y.rank, .string y.text]] ++ cb) p.at_ fun e w' => e = .returned (.int .i64 (c x y)) /\ Below p.at_.heap.size p.at_ w'
theorem encNt_len (p : Tag Nt) : ((fun p : Tag Nt => encN p.1) p).length = 7 := rfl
theorem sk_atN {w0 W : World} {blk off n j i : Nat} {d : Nat -> Tag Nt} {x : Tag Nt} {v : Value} (h : SK (fun p : Tag Nt => encN p.1) 7 w0 blk off n d W) (hj : j < n) (hx : d j = x) (hv : (encN x.1)[i]? = some v) : W.cell? ⟨blk, off + j * 7 + i, none⟩ = some v := by
 have := h.cells j hj i v (by rw [hx]; exact hv);exact this
theorem perm_allN {Q : Nt -> Prop} {a b n : Nat} {d d' : Nat -> Tag Nt} (h : PermOn a b d d') (hb : b <= n) (hq : ∀ j, j < n -> Q (d j).1) : ∀ j, j < n -> Q (d' j).1 := by
 intro j hj;by_cases e : a <= j /\ j < b
 ·obtain ⟨k, _, k2, ek⟩ := h.mem e.1 e.2;rw [ek]; exact hq k (by omega)
 ·rw [h.out j (by omega)]; exact hq j hj
set_option maxHeartbeats 16000000 in
set_option maxRecDepth 1000000 in
theorem insN_any (c : Nt -> Nt -> Int) (hc : IsCmp c) (Q : Nt -> Prop) (g : Nat) (cb : Array Value) (blk off cap n a b : Nat) (d : Nat -> Tag Nt) (w0 w : World)
  (eg : ∀ args w, (callFunc g args).run Tryz.prog w = .ok (.enter g args) w) (hcmp : CmpOKN g cb c Q w0 blk off n) (hQ : ∀ j, j < n -> Q (d j).1) (S : SK (fun p : Tag Nt => encN p.1) 7 w0 blk off n d w)
  (hab : a <= b) (hb : b <= n) (hsz : n < 4611686018427387904) (hy : ∀ p q, a <= p -> p < q -> q < b -> (d p).2 < (d q).2) :
  Calls Tryz.prog 133 #[.slice (some ⟨blk, off, none⟩) n cap, .int .i64 a, .int .i64 b, .func (.func g) #[] cb] w fun e w' => e = .returned (.tuple #[]) /\
   ∃ d', SK (fun p : Tag Nt => encN p.1) 7 w0 blk off n d' w' /\ PermOn a b d d' /\ SortedOn c d' a b := by
 have HC := hI hcmp; clear hcmp
 have S0 := hI S; clear S
 have HQ := hI hQ; clear hQ
 have HY := hI hy; clear hy
 go_enter Tryz.func133, Tryz.ntmps133
 go_wp2;go_loopg [8] (b - a) (fun g1 vi wr => ∃ (i : Nat) (dk : Nat -> Tag Nt), vi = .int .i64 i /\ a < i /\ i <= b + 1 /\ b + 1 - i <= g1 + 1 /\ Hid (SK (fun p : Tag Nt => encN p.1) 7 w0 blk off n dk wr) /\ Hid (PermOn a (min i b) d dk) /\ Hid (SortedOn c dk a (min i b)))
 case atStart => exact ⟨a + 1, d, by go_num, by omega, by omega, by omega, S0, PermOn.refl _ _ _, fun p q h1 h2 h3 => by omega⟩
 case round =>
  clear S0;obtain ⟨i, dk, rfl, hai, hib, hg1, S1, P1, T1⟩ := hrel;by_cases hlt : i < b
  ·have hltz : (i : Int) < (b : Int) := by omega
   have hmin : min i b = i := by omega
   rw [hmin] at P1 T1;clear hmin
   have I0 : Hid (InsAt c dk dk a i i) := InsAt.start (PermOn.refl _ _ _) T1.out (fun p p1 p2 => by
    obtain ⟨k, k1, k2, ek⟩ := P1.out.mem p1 p2;rw [ek, P1.out.out i (by omega)];exact HY.out k i k1 k2 hlt)
   have P2 : Hid (PermOn a (i + 1) d dk) := P1.out.wider (Nat.le_refl _) (by omega) (by omega);clear P1 T1;go_wp2;go_loopg [9] i (fun g2 vj wr2 => ∃ (j : Nat) (dj : Nat -> Tag Nt), vj = .int .i64 j /\ a <= j /\ j <= i /\ j <= g2 /\ Hid (SK (fun p : Tag Nt => encN p.1) 7 w0 blk off n dj wr2) /\ Hid (InsAt c dk dj a i j))
   case atStart => exact ⟨i, dk, rfl, by omega, Nat.le_refl _, Nat.le_refl _, S1, I0⟩
   case round =>
    clear S1 I0;obtain ⟨j, dj, rfl, haj, hji, hg2, SJ, HI⟩ := hrel;have HQJ : Hid (∀ k, k < n -> Q (dj k).1) := (perm_allN (P2.out.trans HI.out.perm) (by omega) HQ.out)
    have OUT : Hid ((j <= a ∨ ¬ c (dj j).1 (dj (j - 1)).1 < 0) -> PermOn a (min (i + 1) b) d dj /\ SortedOn c dj a (min (i + 1) b)) := fun hs => by
     rw [show min (i + 1) b = i + 1 by omega];exact ⟨P2.out.trans HI.out.perm, HI.out.stop hc hji hs⟩
    by_cases hja : a < j
    ·have hjaz : (a : Int) < (j : Int) := by omega
     obtain ⟨jp, hjp⟩ : ∃ q, Hid (q + 1 = j) := ⟨j - 1, show _ = _ by omega⟩;have hj1 : Hid (j - 1 = jp) := show _ = _ by have := hjp.out; omega
     have zjp : (j : Int) = (jp : Int) + 1 := by have := hjp.out; omega
     obtain ⟨x, hx⟩ : ∃ x, Hid (dj j = x) := ⟨_, rfl⟩;obtain ⟨y, hy⟩ : ∃ y, Hid (dj jp = y) := ⟨_, rfl⟩;have HOUT : Hid (¬ c x.1 y.1 < 0 -> PermOn a (min (i + 1) b) d dj /\ SortedOn c dj a (min (i + 1) b)) := fun h => OUT.out (Or.inr (by rw [hj1.out, hx.out, hy.out]; exact h))
     have HSTEP : Hid (c x.1 y.1 < 0 -> InsAt c dk (swpF dj j jp) a i jp) := fun h => by
      have := HI.out.step hji hja (by rw [hj1.out, hx.out, hy.out]; exact h);rw [hj1.out] at this;exact this
     clear OUT;have hjn : j < n := by omega
     have hjpn : jp < n := by have := hjp.out; omega
     have l10 : ∀ p : BW wr, p.at_.cell? ⟨blk, off + j * 7, none⟩ = some (.int .i64 x.1.nid) := fun p => sk_atN (i := 0) (SJ.out.below p.bel) hjn hx.out rfl
     have l20 : ∀ p : BW wr, p.at_.cell? ⟨blk, off + jp * 7, none⟩ = some (.int .i64 y.1.nid) := fun p => sk_atN (i := 0) (SJ.out.below p.bel) hjpn hy.out rfl
     have l11 : ∀ p : BW wr, p.at_.cell? ⟨blk, off + j * 7 + 1, none⟩ = some (.int .i64 x.1.tier) := fun p => sk_atN (i := 1) (SJ.out.below p.bel) hjn hx.out rfl
     have l21 : ∀ p : BW wr, p.at_.cell? ⟨blk, off + jp * 7 + 1, none⟩ = some (.int .i64 y.1.tier) := fun p => sk_atN (i := 1) (SJ.out.below p.bel) hjpn hy.out rfl
     have l12 : ∀ p : BW wr, p.at_.cell? ⟨blk, off + j * 7 + 2, none⟩ = some (.int .i64 x.1.parent) := fun p => sk_atN (i := 2) (SJ.out.below p.bel) hjn hx.out rfl
     have l22 : ∀ p : BW wr, p.at_.cell? ⟨blk, off + jp * 7 + 2, none⟩ = some (.int .i64 y.1.parent) := fun p => sk_atN (i := 2) (SJ.out.below p.bel) hjpn hy.out rfl
     have l13 : ∀ p : BW wr, p.at_.cell? ⟨blk, off + j * 7 + 3, none⟩ = some (.int .i64 x.1.at1) := fun p => sk_atN (i := 3) (SJ.out.below p.bel) hjn hx.out rfl
     have l23 : ∀ p : BW wr, p.at_.cell? ⟨blk, off + jp * 7 + 3, none⟩ = some (.int .i64 y.1.at1) := fun p => sk_atN (i := 3) (SJ.out.below p.bel) hjpn hy.out rfl
     have l14 : ∀ p : BW wr, p.at_.cell? ⟨blk, off + j * 7 + 4, none⟩ = some (.int .i64 x.1.at2) := fun p => sk_atN (i := 4) (SJ.out.below p.bel) hjn hx.out rfl
     have l24 : ∀ p : BW wr, p.at_.cell? ⟨blk, off + jp * 7 + 4, none⟩ = some (.int .i64 y.1.at2) := fun p => sk_atN (i := 4) (SJ.out.below p.bel) hjpn hy.out rfl
     have l15 : ∀ p : BW wr, p.at_.cell? ⟨blk, off + j * 7 + 5, none⟩ = some (.int .i64 x.1.rank) := fun p => sk_atN (i := 5) (SJ.out.below p.bel) hjn hx.out rfl
     have l25 : ∀ p : BW wr, p.at_.cell? ⟨blk, off + jp * 7 + 5, none⟩ = some (.int .i64 y.1.rank) := fun p => sk_atN (i := 5) (SJ.out.below p.bel) hjpn hy.out rfl
     have l16 : ∀ p : BW wr, p.at_.cell? ⟨blk, off + j * 7 + 6, none⟩ = some (.string x.1.text) := fun p => sk_atN (i := 6) (SJ.out.below p.bel) hjn hx.out rfl
     have l26 : ∀ p : BW wr, p.at_.cell? ⟨blk, off + jp * 7 + 6, none⟩ = some (.string y.1.text) := fun p => sk_atN (i := 6) (SJ.out.below p.bel) hjpn hy.out rfl
     have hcall := hI (HC.out wr dj SJ.out x.1 y.1 (by rw [<- hx.out]; exact HQJ.out _ hjn) (by rw [<- hy.out]; exact HQJ.out _ hjpn));have ea : ((jp : Int) + 1).toNat = j := by omega
     have ec : ((jp : Int)).toNat = jp := by omega
     have pa : (0 : Int) <= (jp : Int) + 1 := by omega
     have pc : (0 : Int) <= (jp : Int) := by omega
     have ba : (jp : Int) + 1 < (n : Int) := by omega
     have bc : (jp : Int) < (n : Int) := by omega
     have ra : IntKind.i64.wrap ((jp : Int) + 1) = (jp : Int) + 1 := by rw [IntKind.wrap_i64]; omega
     have rc : IntKind.i64.wrap (jp : Int) = (jp : Int) := by rw [IntKind.wrap_i64]; omega
     have hjad : decide ((jp : Int) + 1 > (a : Int)) = true := decide_eq_true (by omega);have hjaz' : (a : Int) < (jp : Int) + 1 := by omega
     by_cases hlv : c x.1 y.1 < 0
     ·have hd : decide (c x.1 y.1 < 0) = true := decide_eq_true hlv;have HI2 := hI (HSTEP.out hlv);clear HOUT HSTEP;go_wp2_with fail
      refine wp_region_quiet_below (by kernel_rfl) (by kernel_rfl) ?_;repeat (go_big_quiet_step ((exact below_quiet (hcall.out _))))
      refine wpQuiet_nil ?_;intro w2 hw';have hb2 := bw_below hw';clear hw';have S2 : Hid (SK (fun p : Tag Nt => encN p.1) 7 w0 blk off n dj w2) := SJ.out.below hb2;clear l10 l20 l11 l21 l12 l22 l13 l23 l14 l24 l15 l25 l16 l26 hcall SJ hb2;have S2d : Hid (SK (fun p : Tag Nt => encN p.1) 7 w0 blk off n dj w2.drew) := S2.out.drew;obtain ⟨wd, hwd⟩ : ∃ wd, w2.drew = wd := ⟨_, rfl⟩;rw [hwd] at S2d;clear S2;have hr1 := hI (S2d.out.room hjn);have hr2 := hI (S2d.out.room hjpn);obtain ⟨wS, hwS⟩ : ∃ wS, wd.setCells blk (off + j * 7) (#[.int .i64 y.1.nid, .int .i64 y.1.tier, .int .i64 y.1.parent, .int .i64 y.1.at1, .int .i64 y.1.at2, .int .i64 y.1.rank, .string y.1.text] : Array Value).toList = wS := ⟨_, rfl⟩;have hr3 : Hid (wS.there blk (off + jp * 7) 7) := by rw [<- hwS]; exact World.there_setCells hr2.out _ _ _
      have hcx : wd.rangeAt blk (off + j * 7) [.int .i64 x.1.nid, .int .i64 x.1.tier, .int .i64 x.1.parent, .int .i64 x.1.at1, .int .i64 x.1.at2, .int .i64 x.1.rank, .string x.1.text] := by have := S2d.out.cells j hjn; rw [hx.out] at this; exact this
      have hcy : wd.rangeAt blk (off + jp * 7) [.int .i64 y.1.nid, .int .i64 y.1.tier, .int .i64 y.1.parent, .int .i64 y.1.at1, .int .i64 y.1.at2, .int .i64 y.1.rank, .string y.1.text] := by have := S2d.out.cells jp hjpn; rw [hy.out] at this; exact this
      have S3 : Hid (SK (fun p : Tag Nt => encN p.1) 7 w0 blk off n (swpF dj j jp) (wS.setCells blk (off + jp * 7) (#[.int .i64 x.1.nid, .int .i64 x.1.tier, .int .i64 x.1.parent, .int .i64 x.1.at1, .int .i64 x.1.at2, .int .i64 x.1.rank, .string x.1.text] : Array Value).toList)) := by
       rw [<- hwS];have := S2d.out.swapped encNt_len (i := j) (j := jp) hjn hjpn;rw [hx.out, hy.out] at this;exact this
      clear S2d hr2;go_wp2_with fail
      refine wp_region_noPanic ?_;refine wp_region_held_drew (S := fun _ => True) (by kernel_rfl) ?_ (fun hHeld => ?_)
      ·trivial
      rw [hwd];clear hwd;refine wpAnyH_take (i := 0) (oi := ⟨some 37, .move (.tmp 0), 36, "zsortanyfunc.go:13", #[], none⟩) (v := ?_) rfl (by kernel_rfl) (by kernel_rfl) (by kernel_rfl) (fun _ _ _ h => h) (Or.inl ⟨by rfl, ?_⟩) (by assumption) ?_;rotate_left
      ·(intro w hSw; (try dsimp only at hSw); go_simp; try with_reducible rfl)
      rotate_left;try simp only [Act.put, pS]
      refine wpAnyH_take (i := 1) (oi := ⟨some 38, .move (.tmp 9), 3, "zsortanyfunc.go:13", #[], none⟩) (v := ?_) rfl (by kernel_rfl) (by kernel_rfl) (by kernel_rfl) (fun _ _ _ h => h) (Or.inl ⟨by rfl, ?_⟩) (by assumption) ?_;rotate_left
      ·(intro w hSw; (try dsimp only at hSw); go_simp; try with_reducible rfl)
      rotate_left;try simp only [Act.put, pS]
      refine wpAnyH_take (i := 2) (oi := ⟨some 39, .move (.tmp 0), 36, "zsortanyfunc.go:13", #[⟨15, .gcOnly .lateStores⟩], none⟩) (v := ?_) rfl (by kernel_rfl) (by kernel_rfl) (by kernel_rfl) (fun _ _ _ h => h) (Or.inl ⟨by rfl, ?_⟩) (by assumption) ?_;rotate_left
      ·(intro w hSw; (try dsimp only at hSw); go_simp; try with_reducible rfl)
      rotate_left;try simp only [Act.put, pS]
      refine wpAnyH_take (i := 3) (oi := ⟨some 40, .move (.tmp 9), 3, "zsortanyfunc.go:13", #[⟨15, .gcOnly .lateStores⟩], none⟩) (v := ?_) rfl (by kernel_rfl) (by kernel_rfl) (by kernel_rfl) (fun _ _ _ h => h) (Or.inl ⟨by rfl, ?_⟩) (by assumption) ?_;rotate_left
      ·(intro w hSw; (try dsimp only at hSw); go_simp; try with_reducible rfl)
      rotate_left;try simp only [Act.put, pS]
      refine wpAnyH_take (i := 4) (oi := ⟨some 41, .binOp .sub 3 (.tmp 40) (.const (.int .i64 1)) 3, 3, "zsortanyfunc.go:13", #[⟨3, .data⟩, ⟨15, .gcOnly .lateStores⟩], none⟩) (v := ?_) rfl (by kernel_rfl) (by kernel_rfl) (by kernel_rfl) (fun _ _ _ h => h) (Or.inl ⟨by rfl, ?_⟩) (by assumption) ?_;rotate_left
      ·(intro w hSw; (try dsimp only at hSw); go_simp; try with_reducible rfl)
      rotate_left;try simp only [Act.put, pS]
      refine wpAnyH_take (i := 5) (oi := ⟨some 42, .move (.tmp 0), 36, "zsortanyfunc.go:13", #[], none⟩) (v := ?_) rfl (by kernel_rfl) (by kernel_rfl) (by kernel_rfl) (fun _ _ _ h => h) (Or.inl ⟨by rfl, ?_⟩) (by assumption) ?_;rotate_left
      ·(intro w hSw; (try dsimp only at hSw); go_simp; try with_reducible rfl)
      rotate_left;try simp only [Act.put, pS]
      refine wpAnyH_take (i := 6) (oi := ⟨some 43, .move (.tmp 9), 3, "zsortanyfunc.go:13", #[], none⟩) (v := ?_) rfl (by kernel_rfl) (by kernel_rfl) (by kernel_rfl) (fun _ _ _ h => h) (Or.inl ⟨by rfl, ?_⟩) (by assumption) ?_;rotate_left
      ·(intro w hSw; (try dsimp only at hSw); go_simp; try with_reducible rfl)
      rotate_left;try simp only [Act.put, pS]
      refine wpAnyH_take (i := 7) (oi := ⟨some 44, .binOp .sub 3 (.tmp 43) (.const (.int .i64 1)) 3, 3, "zsortanyfunc.go:13", #[⟨6, .data⟩], none⟩) (v := ?_) rfl (by kernel_rfl) (by kernel_rfl) (by kernel_rfl) (fun _ _ _ h => h) (Or.inl ⟨by rfl, ?_⟩) (by assumption) ?_;rotate_left
      ·(intro w hSw; (try dsimp only at hSw); go_simp; try with_reducible rfl)
      rotate_left;try simp only [Act.put, pS]
      refine wpAnyH_take (i := 8) (oi := ⟨some 45, .indexAddr 36 (.tmp 42) (.tmp 44), 0, "zsortanyfunc.go:13", #[⟨5, .data⟩, ⟨7, .data⟩], none⟩) (v := ?_) rfl (by kernel_rfl) (by kernel_rfl) (by kernel_rfl) (fun _ _ _ h => h) (Or.inl ⟨by rfl, ?_⟩) (by assumption) ?_;rotate_left
      ·(intro w hSw; (try dsimp only at hSw); go_simp; try with_reducible rfl)
      rotate_left;try simp only [Act.put, pS]
      refine wpAnyH_take (i := 10) (oi := ⟨some 47, .move (.tmp 0), 36, "zsortanyfunc.go:13", #[], none⟩) (v := ?_) rfl (by kernel_rfl) (by kernel_rfl) (by kernel_rfl) (fun _ _ _ h => h) (Or.inl ⟨by rfl, ?_⟩) (by assumption) ?_;rotate_left
      ·(intro w hSw; (try dsimp only at hSw); go_simp; try with_reducible rfl)
      rotate_left;try simp only [Act.put, pS]
      refine wpAnyH_take (i := 11) (oi := ⟨some 48, .move (.tmp 9), 3, "zsortanyfunc.go:13", #[], none⟩) (v := ?_) rfl (by kernel_rfl) (by kernel_rfl) (by kernel_rfl) (fun _ _ _ h => h) (Or.inl ⟨by rfl, ?_⟩) (by assumption) ?_;rotate_left
      ·(intro w hSw; (try dsimp only at hSw); go_simp; try with_reducible rfl)
      rotate_left;try simp only [Act.put, pS]
      refine wpAnyH_take (i := 12) (oi := ⟨some 49, .indexAddr 36 (.tmp 47) (.tmp 48), 0, "zsortanyfunc.go:13", #[⟨10, .data⟩, ⟨11, .data⟩], none⟩) (v := ?_) rfl (by kernel_rfl) (by kernel_rfl) (by kernel_rfl) (fun _ _ _ h => h) (Or.inl ⟨by rfl, ?_⟩) (by assumption) ?_;rotate_left
      ·(intro w hSw; (try dsimp only at hSw); go_simp; try with_reducible rfl)
      rotate_left;try simp only [Act.put, pS]
      refine wpAnyH_ready (rs := [9, 13]) (by kernel_rfl) (by simp) ?_;refine AllReadyH.cons (o := ⟨some 46, .load 58 (.tmp 45), 58, "zsortanyfunc.go:13", #[⟨8, .data⟩], none⟩) rfl (fun K hK => ?_) ?_
      ·rw [if_pos (show Region.wanted _ _ = true from rfl)];refine wp_load_mid 58 (.tmp 45) rfl blk (off + jp * 7) rfl [.int .i64 y.1.nid, .int .i64 y.1.tier, .int .i64 y.1.parent, .int .i64 y.1.at1, .int .i64 y.1.at2, .int .i64 y.1.rank, .string y.1.text] _ hcy Tryz.underlying58 rfl (by kernel_rfl) ?_;refine hK.out _ _ ?_ (fun hHeld => ?_)
       ·trivial
       clear hK K;try simp only [Act.put, pS]
       refine wpAnyH_ready (rs := [13]) (by kernel_rfl) (by simp) ?_;refine AllReadyH.cons (o := ⟨some 50, .load 58 (.tmp 49), 58, "zsortanyfunc.go:13", #[⟨12, .data⟩], none⟩) rfl (fun K hK => ?_) AllReadyH.nil;rw [if_pos (show Region.wanted _ _ = true from rfl)];refine wp_load_mid 58 (.tmp 49) rfl blk (off + j * 7) rfl [.int .i64 x.1.nid, .int .i64 x.1.tier, .int .i64 x.1.parent, .int .i64 x.1.at1, .int .i64 x.1.at2, .int .i64 x.1.rank, .string x.1.text] _ hcx Tryz.underlying58 rfl (by kernel_rfl) ?_;refine hK.out _ _ ?_ (fun hHeld => ?_)
       ·trivial
       clear hK K;try simp only [Act.put, pS]
       refine wpAnyH_take (i := 14) (oi := ⟨some 51, .indexAddr 36 (.tmp 37) (.tmp 38), 0, "zsortanyfunc.go:13", #[⟨0, .data⟩, ⟨1, .data⟩, ⟨0, .phase⟩, ⟨1, .phase⟩, ⟨2, .textOnly .lateStores⟩, ⟨3, .textOnly .lateStores⟩, ⟨4, .textOnly .lateStores⟩, ⟨5, .phase⟩, ⟨6, .phase⟩, ⟨7, .phase⟩, ⟨8, .phase⟩, ⟨9, .phase⟩, ⟨10, .textOnly .lateStores⟩, ⟨11, .textOnly .lateStores⟩, ⟨12, .textOnly .lateStoresUnsure⟩, ⟨13, .phase⟩], none⟩) (v := ?_) rfl (by kernel_rfl) (by kernel_rfl) (by kernel_rfl) (fun _ _ _ h => h) (Or.inl ⟨by rfl, ?_⟩) (by assumption) ?_;rotate_left
       ·(intro w hSw; (try dsimp only at hSw); go_simp; try with_reducible rfl)
       rotate_left;try simp only [Act.put, pS]
       refine wpAnyH_ready (rs := [15]) (by kernel_rfl) (by simp) ?_;refine AllReadyH.cons (o := ⟨none, .store 58 (.tmp 51) (.tmp 46), 0, "zsortanyfunc.go:13", #[⟨14, .data⟩, ⟨9, .data⟩, ⟨0, .phase⟩, ⟨1, .phase⟩, ⟨2, .textOnly .lateStores⟩, ⟨3, .textOnly .lateStores⟩, ⟨4, .textOnly .lateStores⟩, ⟨5, .phase⟩, ⟨6, .phase⟩, ⟨7, .phase⟩, ⟨8, .phase⟩, ⟨9, .phase⟩, ⟨10, .textOnly .lateStores⟩, ⟨11, .textOnly .lateStores⟩, ⟨12, .textOnly .lateStoresUnsure⟩, ⟨13, .phase⟩], none⟩) rfl (fun K hK => ?_) AllReadyH.nil;rw [if_pos (show Region.wanted _ _ = true from rfl)];refine wp_store_mid 58 (.tmp 51) (.tmp 46) rfl blk (off + j * 7) #[.int .i64 y.1.nid, .int .i64 y.1.tier, .int .i64 y.1.parent, .int .i64 y.1.at1, .int .i64 y.1.at2, .int .i64 y.1.rank, .string y.1.text] rfl rfl hr1.out (by kernel_rfl) (by simp [Value.oneCell']) ?_;rw [hwS];refine hK.out _ _ ?_ (fun hHeld => ?_)
       ·trivial
       clear hK K;try simp only [Act.put, pS]
       refine wpAnyH_take (i := 16) (oi := ⟨some 52, .indexAddr 36 (.tmp 39) (.tmp 41), 0, "zsortanyfunc.go:13", #[⟨2, .data⟩, ⟨4, .data⟩, ⟨0, .phase⟩, ⟨1, .phase⟩, ⟨2, .phase⟩, ⟨3, .phase⟩, ⟨4, .phase⟩, ⟨5, .phase⟩, ⟨6, .phase⟩, ⟨7, .phase⟩, ⟨8, .phase⟩, ⟨9, .phase⟩, ⟨10, .phase⟩, ⟨11, .phase⟩, ⟨12, .phase⟩, ⟨13, .phase⟩, ⟨14, .phase⟩, ⟨15, .phase⟩], none⟩) (v := ?_) rfl (by kernel_rfl) (by kernel_rfl) (by kernel_rfl) (fun _ _ _ h => h) (Or.inl ⟨by rfl, ?_⟩) (by assumption) ?_;rotate_left
       ·(intro w hSw; (try dsimp only at hSw); go_simp; try with_reducible rfl)
       rotate_left;try simp only [Act.put, pS]
       refine wpAnyH_ready (rs := [17]) (by kernel_rfl) (by simp) ?_;refine AllReadyH.cons (o := ⟨none, .store 58 (.tmp 52) (.tmp 50), 0, "zsortanyfunc.go:13", #[⟨16, .data⟩, ⟨13, .data⟩, ⟨15, .chain⟩, ⟨0, .phase⟩, ⟨1, .phase⟩, ⟨2, .phase⟩, ⟨3, .phase⟩, ⟨4, .phase⟩, ⟨5, .phase⟩, ⟨6, .phase⟩, ⟨7, .phase⟩, ⟨8, .phase⟩, ⟨9, .phase⟩, ⟨10, .phase⟩, ⟨11, .phase⟩, ⟨12, .phase⟩, ⟨13, .phase⟩, ⟨14, .phase⟩, ⟨15, .phase⟩], none⟩) rfl (fun K hK => ?_) AllReadyH.nil;rw [if_pos (show Region.wanted _ _ = true from rfl)];refine wp_store_mid 58 (.tmp 52) (.tmp 50) rfl blk (off + jp * 7) #[.int .i64 x.1.nid, .int .i64 x.1.tier, .int .i64 x.1.parent, .int .i64 x.1.at1, .int .i64 x.1.at2, .int .i64 x.1.rank, .string x.1.text] rfl rfl hr3.out (by kernel_rfl) (by simp [Value.oneCell']) ?_;refine hK.out _ _ ?_ (fun hHeld => ?_)
       ·trivial
       clear hK K;try simp only [Act.put, pS]
       refine wpAnyH_done (by kernel_rfl) ?_ _;refine NoPanic.normal ?_;clear hr1 hr3 hcx hcy hwS;generalize wS.setCells blk (off + jp * 7) (#[.int .i64 x.1.nid, .int .i64 x.1.tier, .int .i64 x.1.parent, .int .i64 x.1.at1, .int .i64 x.1.at2, .int .i64 x.1.rank, .string x.1.text] : Array Value).toList = w3 at S3 |-;clear ea ec ra rc;go_wp2;go_roundg jp
       case measure => omega
       case rel => exact ⟨jp, swpF dj j jp, by first | rfl | go_num | (congr 1; omega), by omega, by omega, Nat.le_refl _, S3, HI2⟩
      refine AllReadyH.cons (o := ⟨some 50, .load 58 (.tmp 49), 58, "zsortanyfunc.go:13", #[⟨12, .data⟩], none⟩) rfl (fun K hK => ?_) AllReadyH.nil;rw [if_pos (show Region.wanted _ _ = true from rfl)];refine wp_load_mid 58 (.tmp 49) rfl blk (off + j * 7) rfl [.int .i64 x.1.nid, .int .i64 x.1.tier, .int .i64 x.1.parent, .int .i64 x.1.at1, .int .i64 x.1.at2, .int .i64 x.1.rank, .string x.1.text] _ hcx Tryz.underlying58 rfl (by kernel_rfl) ?_;refine hK.out _ _ ?_ (fun hHeld => ?_)
      ·trivial
      clear hK K;try simp only [Act.put, pS]
      refine wpAnyH_ready (rs := [9]) (by kernel_rfl) (by simp) ?_;refine AllReadyH.cons (o := ⟨some 46, .load 58 (.tmp 45), 58, "zsortanyfunc.go:13", #[⟨8, .data⟩], none⟩) rfl (fun K hK => ?_) AllReadyH.nil;rw [if_pos (show Region.wanted _ _ = true from rfl)];refine wp_load_mid 58 (.tmp 45) rfl blk (off + jp * 7) rfl [.int .i64 y.1.nid, .int .i64 y.1.tier, .int .i64 y.1.parent, .int .i64 y.1.at1, .int .i64 y.1.at2, .int .i64 y.1.rank, .string y.1.text] _ hcy Tryz.underlying58 rfl (by kernel_rfl) ?_;refine hK.out _ _ ?_ (fun hHeld => ?_)
      ·trivial
      clear hK K;try simp only [Act.put, pS]
      refine wpAnyH_take (i := 14) (oi := ⟨some 51, .indexAddr 36 (.tmp 37) (.tmp 38), 0, "zsortanyfunc.go:13", #[⟨0, .data⟩, ⟨1, .data⟩, ⟨0, .phase⟩, ⟨1, .phase⟩, ⟨2, .textOnly .lateStores⟩, ⟨3, .textOnly .lateStores⟩, ⟨4, .textOnly .lateStores⟩, ⟨5, .phase⟩, ⟨6, .phase⟩, ⟨7, .phase⟩, ⟨8, .phase⟩, ⟨9, .phase⟩, ⟨10, .textOnly .lateStores⟩, ⟨11, .textOnly .lateStores⟩, ⟨12, .textOnly .lateStoresUnsure⟩, ⟨13, .phase⟩], none⟩) (v := ?_) rfl (by kernel_rfl) (by kernel_rfl) (by kernel_rfl) (fun _ _ _ h => h) (Or.inl ⟨by rfl, ?_⟩) (by assumption) ?_;rotate_left
      ·(intro w hSw; (try dsimp only at hSw); go_simp; try with_reducible rfl)
      rotate_left;try simp only [Act.put, pS]
      refine wpAnyH_ready (rs := [15]) (by kernel_rfl) (by simp) ?_;refine AllReadyH.cons (o := ⟨none, .store 58 (.tmp 51) (.tmp 46), 0, "zsortanyfunc.go:13", #[⟨14, .data⟩, ⟨9, .data⟩, ⟨0, .phase⟩, ⟨1, .phase⟩, ⟨2, .textOnly .lateStores⟩, ⟨3, .textOnly .lateStores⟩, ⟨4, .textOnly .lateStores⟩, ⟨5, .phase⟩, ⟨6, .phase⟩, ⟨7, .phase⟩, ⟨8, .phase⟩, ⟨9, .phase⟩, ⟨10, .textOnly .lateStores⟩, ⟨11, .textOnly .lateStores⟩, ⟨12, .textOnly .lateStoresUnsure⟩, ⟨13, .phase⟩], none⟩) rfl (fun K hK => ?_) AllReadyH.nil;rw [if_pos (show Region.wanted _ _ = true from rfl)];refine wp_store_mid 58 (.tmp 51) (.tmp 46) rfl blk (off + j * 7) #[.int .i64 y.1.nid, .int .i64 y.1.tier, .int .i64 y.1.parent, .int .i64 y.1.at1, .int .i64 y.1.at2, .int .i64 y.1.rank, .string y.1.text] rfl rfl hr1.out (by kernel_rfl) (by simp [Value.oneCell']) ?_;rw [hwS];refine hK.out _ _ ?_ (fun hHeld => ?_)
      ·trivial
      clear hK K;try simp only [Act.put, pS]
      refine wpAnyH_take (i := 16) (oi := ⟨some 52, .indexAddr 36 (.tmp 39) (.tmp 41), 0, "zsortanyfunc.go:13", #[⟨2, .data⟩, ⟨4, .data⟩, ⟨0, .phase⟩, ⟨1, .phase⟩, ⟨2, .phase⟩, ⟨3, .phase⟩, ⟨4, .phase⟩, ⟨5, .phase⟩, ⟨6, .phase⟩, ⟨7, .phase⟩, ⟨8, .phase⟩, ⟨9, .phase⟩, ⟨10, .phase⟩, ⟨11, .phase⟩, ⟨12, .phase⟩, ⟨13, .phase⟩, ⟨14, .phase⟩, ⟨15, .phase⟩], none⟩) (v := ?_) rfl (by kernel_rfl) (by kernel_rfl) (by kernel_rfl) (fun _ _ _ h => h) (Or.inl ⟨by rfl, ?_⟩) (by assumption) ?_;rotate_left
      ·(intro w hSw; (try dsimp only at hSw); go_simp; try with_reducible rfl)
      rotate_left;try simp only [Act.put, pS]
      refine wpAnyH_ready (rs := [17]) (by kernel_rfl) (by simp) ?_;refine AllReadyH.cons (o := ⟨none, .store 58 (.tmp 52) (.tmp 50), 0, "zsortanyfunc.go:13", #[⟨16, .data⟩, ⟨13, .data⟩, ⟨15, .chain⟩, ⟨0, .phase⟩, ⟨1, .phase⟩, ⟨2, .phase⟩, ⟨3, .phase⟩, ⟨4, .phase⟩, ⟨5, .phase⟩, ⟨6, .phase⟩, ⟨7, .phase⟩, ⟨8, .phase⟩, ⟨9, .phase⟩, ⟨10, .phase⟩, ⟨11, .phase⟩, ⟨12, .phase⟩, ⟨13, .phase⟩, ⟨14, .phase⟩, ⟨15, .phase⟩], none⟩) rfl (fun K hK => ?_) AllReadyH.nil;rw [if_pos (show Region.wanted _ _ = true from rfl)];refine wp_store_mid 58 (.tmp 52) (.tmp 50) rfl blk (off + jp * 7) #[.int .i64 x.1.nid, .int .i64 x.1.tier, .int .i64 x.1.parent, .int .i64 x.1.at1, .int .i64 x.1.at2, .int .i64 x.1.rank, .string x.1.text] rfl rfl hr3.out (by kernel_rfl) (by simp [Value.oneCell']) ?_;refine hK.out _ _ ?_ (fun hHeld => ?_)
      ·trivial
      clear hK K;try simp only [Act.put, pS]
      refine wpAnyH_done (by kernel_rfl) ?_ _;refine NoPanic.normal ?_;clear hr1 hr3 hcx hcy hwS;generalize wS.setCells blk (off + jp * 7) (#[.int .i64 x.1.nid, .int .i64 x.1.tier, .int .i64 x.1.parent, .int .i64 x.1.at1, .int .i64 x.1.at2, .int .i64 x.1.rank, .string x.1.text] : Array Value).toList = w3 at S3 |-;clear ea ec ra rc;go_wp2;go_roundg jp
      case measure => omega
      case rel => exact ⟨jp, swpF dj j jp, by first | rfl | go_num | (congr 1; omega), by omega, by omega, Nat.le_refl _, S3, HI2⟩
     ·have hd : decide (c x.1 y.1 < 0) = false := decide_eq_false hlv;have HO := hI (HOUT.out hlv);clear HOUT HSTEP;go_wp2_with fail
      refine wp_region_quiet_below (by kernel_rfl) (by kernel_rfl) ?_;repeat (go_big_quiet_step ((exact below_quiet (hcall.out _))))
      refine wpQuiet_nil ?_;intro w2 hw';have hb2 := bw_below hw';clear hw';have S2 : Hid (SK (fun p : Tag Nt => encN p.1) 7 w0 blk off n dj w2) := SJ.out.below hb2;clear l10 l20 l11 l21 l12 l22 l13 l23 l14 l24 l15 l25 l16 l26 hcall SJ hb2 ea ec ra rc;go_wp2;go_roundg (b - (i + 1))
      case measure => omega
      case rel => exact ⟨i + 1, dj, by go_num, by omega, by omega, by omega, S2, HO.out.1, HO.out.2⟩
    ·have hjaz : decide ((j : Int) > (a : Int)) = false := decide_eq_false (by omega);have hjaz' : ¬ (a : Int) < (j : Int) := by omega
     have HO := hI (OUT.out (Or.inl (by omega)));clear OUT;go_wp2_with fail
     go_quiet (fail)
     have S2 : Hid (SK (fun p : Tag Nt => encN p.1) 7 w0 blk off n dj (wr.drewN nq)) := SJ.out.drewN nq;clear SJ;generalize wr.drewN nq = w2 at S2 |-;go_wp2;go_roundg (b - (i + 1))
     case measure => omega
     case rel => exact ⟨i + 1, dj, by go_num, by omega, by omega, by omega, S2, HO.out.1, HO.out.2⟩
  ·have hltz : ¬ (i : Int) < (b : Int) := by omega
   go_wp2;go_end0
   have hmin : min i b = b := by omega
   rw [hmin] at P1 T1;exact ⟨rfl, dk, S1.out, P1.out, T1.out⟩
set_option maxHeartbeats 400000 in
theorem insN_none (f : Value) (A : Option Addr) (n c : Nat) (w : World) :
  Calls Tryz.prog 133 #[.slice A n c, .int .i64 0, .int .i64 0, f] w fun e w' => e = .returned (.tuple #[]) /\ w = w' := by
 go_enter Tryz.func133, Tryz.ntmps133
 go_wp2;refine wp_loop_rounds 1 ?_;rw [rounds_succ];go_wp2;go_end0
 exact ⟨rfl, rfl⟩
set_option maxHeartbeats 400000 in
theorem stableN_none (f : Value) (A : Option Addr) (c : Nat) (w : World) :
  Calls Tryz.prog 114 #[.slice A 0 c, .int .i64 0, f] w fun e w' => e = .returned (.tuple #[]) /\ w = w' := by
 go_enter Tryz.func114, Tryz.ntmps114
 go_wp2;refine wp_loop_rounds 1 ?_;rw [rounds_succ];go_wp2_with fail
 refine (insN_none _ _ _ _ _).mono ?_;rintro e w1 ⟨rfl, rfl⟩;go_wp2;refine wp_loop_rounds 1 ?_;rw [rounds_succ];go_wp2;go_end0
 exact ⟨rfl, rfl⟩
set_option maxHeartbeats 400000 in
theorem ssfN_none (f : Value) (A : Option Addr) (c : Nat) (w : World) :
  Calls Tryz.prog 90 #[.slice A 0 c, f] w fun e w' => e = .returned (.tuple #[]) /\ w = w' := by
 go_enter Tryz.func90, Tryz.ntmps90
 go_wp2_with fail
 refine (stableN_none _ _ _ _).mono ?_;rintro e w1 ⟨rfl, rfl⟩;go_wp2;go_end0
 exact ⟨rfl, rfl⟩
set_option maxHeartbeats 1000000 in
theorem stableN_few (c : Nt -> Nt -> Int) (hc : IsCmp c) (Q : Nt -> Prop) (g : Nat) (cb : Array Value) (blk off cap n : Nat) (d : Nat -> Tag Nt) (w : World)
  (eg : ∀ args w, (callFunc g args).run Tryz.prog w = .ok (.enter g args) w) (hcmp : CmpOKN g cb c Q w blk off n) (hQ : ∀ j, j < n -> Q (d j).1) (S : SK (fun p : Tag Nt => encN p.1) 7 w blk off n d w) (hn : n < 20) (h0 : ∀ k, (d k).2 = k) :
  Calls Tryz.prog 114 #[.slice (some ⟨blk, off, none⟩) n cap, .int .i64 n, .func (.func g) #[] cb] w fun e w' => e = .returned (.tuple #[]) /\
   ∃ d', SK (fun p : Tag Nt => encN p.1) 7 w blk off n d' w' /\ PermOn 0 n d d' /\ SortedOn c d' 0 n := by
 have HI := hI (insN_any c hc Q g cb blk off cap n 0 n d w w eg hcmp hQ S (Nat.zero_le _) (Nat.le_refl _) (by omega) (fun p q h1 h2 h3 => by rw [h0, h0]; exact h2));clear hcmp hQ S;have h20 : ¬ (20 : Int) <= (n : Int) := by omega
 have h20' : ¬ (20 : Int) < (n : Int) := by omega
 go_enter Tryz.func114, Tryz.ntmps114
 go_wp2;refine wp_loop_rounds 1 ?_;rw [rounds_succ];go_wp2_with fail
 refine HI.out.mono ?_;rintro e w1 ⟨rfl, h⟩;have H := hI h; clear h
 go_wp2;refine wp_loop_rounds 1 ?_;rw [rounds_succ];go_wp2;go_end0
 exact ⟨rfl, H.out⟩
set_option maxHeartbeats 400000 in
theorem ssfN_few (c : Nt -> Nt -> Int) (hc : IsCmp c) (Q : Nt -> Prop) (g : Nat) (cb : Array Value) (blk off cap n : Nat) (d : Nat -> Tag Nt) (w : World)
  (eg : ∀ args w, (callFunc g args).run Tryz.prog w = .ok (.enter g args) w) (hcmp : CmpOKN g cb c Q w blk off n) (hQ : ∀ j, j < n -> Q (d j).1) (S : SK (fun p : Tag Nt => encN p.1) 7 w blk off n d w) (hn : n < 20) (h0 : ∀ k, (d k).2 = k) :
  Calls Tryz.prog 90 #[.slice (some ⟨blk, off, none⟩) n cap, .func (.func g) #[] cb] w fun e w' => e = .returned (.tuple #[]) /\
   ∃ d', SK (fun p : Tag Nt => encN p.1) 7 w blk off n d' w' /\ PermOn 0 n d d' /\ SortedOn c d' 0 n := by
 have hc' := hI (stableN_few c hc Q g cb blk off cap n d w eg hcmp hQ S hn h0);clear hcmp hQ S h0;go_enter Tryz.func90, Tryz.ntmps90
 go_wp2_with fail
 refine hc'.out.mono ?_;rintro e w1 ⟨rfl, h⟩;have H := hI h; clear h
 go_wp2;go_end0
 exact ⟨rfl, H.out⟩
end
section
open Go.RowKit Ru Lay Srt Col
attribute [local go_sem ↓] Go.wp_at_zero Go.wp_at_succ
instance : Inhabited Nt := ⟨nt0⟩
theorem info_note : (Tryz.prog.info? 58).map (fun i => (i.zero, i.size, i.bytes)) = some (some (noteV nt0), 7, 64) := by kernel_rfl
theorem own_i {w : World} {base : Nat} {v : Value} {l : List Int} {x : Int} (h : w.ownsRow base 3 1 v (l.length + 1) (intV l ++ [.int .i64 x])) : OwnI w base v (l ++ [x]) := by
 show World.ownsRow _ _ _ _ _ _ _;unfold intV at *;rw [List.length_append, List.length_singleton, List.map_append];exact h
theorem ids_take {l : List Nt} {k : Nat} {x : Nt} (h : l[k]? = some x) : (l.map Nt.nid).take (k + 1) = (l.map Nt.nid).take k ++ [x.nid] := take_at2 (by rw [List.getElem?_map, h]; rfl)
theorem sortedN_any (base : Nat) (v : Value) (l : List Nt) (w : World) (h : OwnR encN 7 58 w base v l) (hn : l.length < 20) :
    Calls Tryz.prog 90 #[v, .func (.func 91) #[] #[]] w fun e w' => e = .returned (.tuple #[]) /\ OwnR encN 7 58 w' base v (sortN l) /\ Below base w w' := by
  rcases Nat.eq_zero_or_pos l.length with e0 | e0
  · have hl := List.eq_nil_of_length_eq_zero e0
    subst hl;obtain ⟨A, c, rfl, _, _, _⟩ := h.form;refine (ssfN_none _ A c w).mono ?_;rintro e w' ⟨rfl, rfl⟩;exact ⟨rfl, h, Below.refl _ _⟩
  · obtain ⟨g, cap, rfl⟩ : ∃ g cap, v = .slice (some ⟨g, 0, none⟩) l.length cap := by
      rcases h.2 with ⟨_, h2⟩ | ⟨g, cap, cur, hv, _⟩
      · omega
      · exact ⟨g, cap, hv⟩
    have hg := (h.lt g rfl).1
    have hS : SK (fun p : Tag Nt => encN p.1) 7 w g 0 l.length (tagged l) w := by
      have h2 := SK.start (enc := encN) (d := fun k => l.getD k default) encN_len (by omega) h (fun j x hx => by rw [List.getD, hx]; rfl);exact ⟨h2.os, h2.tape, h2.output, h2.size, h2.block, h2.lt, h2.cells, h2.there, h2.obj⟩
    refine (ssfN_few ordN ordN_is (fun _ => True) 91 #[] g 0 cap l.length (tagged l) w (enters_of Tryz.func91 (by kernel_rfl) rfl)
      (fun W d _ x y _ _ p => ordN_any x y p.at_) (fun _ _ => trivial) hS hn (fun _ => rfl)).mono ?_
    rintro e w' ⟨rfl, d', h1, h2, h3⟩;have hst := sortN_of (stableOf_of (c := ordN) (xs := l) (d := d') h2 h3);refine ⟨rfl, ?_, h1.belowBase hg⟩;have h4 : SK encN 7 w g 0 l.length (fun k => (d' k).1) w' := ⟨h1.os, h1.tape, h1.output, h1.size, h1.block, h1.lt, h1.cells, h1.there, h1.obj⟩;have hlen : (sortN l).length = l.length := by rw [<- hst]; simp [listOf]
    have h5 := h4.owned encN_len (by omega) h hlen (fun j hj => by rw [<- hst]; simp [listOf, hj]);exact h5
theorem kids_cells (w : World) (rid : Int) (name : ByteArray) (len day : Int) (sa ta na : Option Addr) (sn sc tn tc nn nc : Nat) : ∃ W0, w.alloc (.cells #[.int .i64 rid, .string name, .int .i64 len, .int .i64 day, .slice sa sn sc, .slice ta tn tc, .slice na nn nc] 38) = W0 /\ W0.heap.size = w.heap.size + 1 /\ Below w.heap.size w W0 /\
  ∀ W, Below W0.heap.size W0 W -> W.rangeAt w.heap.size 0 [.int .i64 rid, .string name, .int .i64 len, .int .i64 day, .slice sa sn sc, .slice ta tn tc, .slice na nn nc] := by
 refine ⟨_, rfl, by simp, (Below.refl _ w).alloc (Nat.le_refl _) _, fun W hW => ?_⟩;refine range_below hW (by simp) ?_;intro j v hv;rw [Nat.zero_add, World.cell?_alloc_new w _ _ j, <- hv, <- List.getElem?_toArray]
set_option maxHeartbeats 4000000 in
set_option maxRecDepth 100000 in
theorem kids_any (d : Dv) (l : List Nt) (id tier : Int) (w : World) (hl : NotesR w w.heap.size d.na d.nn l) (hn : d.nn < 20) (ht : d.tn <= 9223372036854775807) :
  Calls Tryz.prog 62 #[docV d, .int .i64 id, .int .i64 tier] w fun e w' => ∃ v, e = .returned v /\ OwnI w' w.heap.size v (kidsL d.tn l id tier) /\ Below w.heap.size w w' := by
 have HL := hI hl;have HLN := hI hl.len;clear hl;unfold docV;obtain ⟨rid, name, len, day, sa, sn, sc, ta, tn, tc, na, nn, nc⟩ := d;simp only at HL HLN hn ht |-;go_enter Tryz.func62, Tryz.ntmps62
 go_wp2_with fail
 obtain ⟨W0, hW0, hz0, hB, hK⟩ := kids_cells w rid name len day sa ta na sn sc tn tc nn nc;have HB := hI hB;have HK := hI hK;rw [hW0];clear hW0 hB hK;go_loopw [7, 9, 16] (fun v7 v9 v16 wr => ∃ i : Nat, i <= nn /\ v16 = .int .i64 i /\ Hid (OwnR encN 7 58 wr W0.heap.size v7 (sibs tn (l.take i) id tier)) /\ Hid (Below W0.heap.size W0 wr)) (fun _ _ v16 _ => nn - (intOf v16).toNat)
 case atStart => exact ⟨0, Nat.zero_le _, rfl, (by rw [List.take_zero]; exact OwnR.nil), Below.refl _ _⟩
 case round =>
  obtain ⟨i, hi, rfl, HO, HB0⟩ := hrel;obtain ⟨w0, hw0⟩ : ∃ w0, wr = w0 := ⟨_, rfl⟩;rw [hw0] at HO HB0 |-;clear hw0;have HBW : Hid (Below w.heap.size w w0) := HB.out.trans (HB0.out.mono HB.out.size);by_cases hlt : i < nn
  ·have hiz : (i : Int) < (nn : Int) := by omega
   have hiA : (0 : Int) <= (i : Int) := by omega
   obtain ⟨ad, x, rfl, hab, hx, hcells⟩ := HL.out.at_ hlt;obtain ⟨q0, q1, q2, q3, q4, q5, q6⟩ := hcells w0 HBW.out;have HI := hI hlt;have HNX := hI (sibs_next (tn := tn) (id := id) (tier := tier) hx);have hsz := HB0.out.size;have HBA : Hid (Below W0.heap.size W0 (w0.alloc (.cells #[.int .i64 x.nid, .int .i64 x.tier, .int .i64 x.parent, .int .i64 x.at1, .int .i64 x.at2, .int .i64 x.rank, .string x.text] 58))) := HB0.out.alloc hsz _;have hk := HK.out _ HBA.out;have k5 : (w0.alloc (.cells #[.int .i64 x.nid, .int .i64 x.tier, .int .i64 x.parent, .int .i64 x.at1, .int .i64 x.at2, .int .i64 x.rank, .string x.text] 58)).cell? ⟨w.heap.size, 5, none⟩ = some (.slice ta tn tc) := hk 5 _ rfl;have hlls : (sibs tn (l.take i) id tier).length <= i := Nat.le_trans sibs_len (by rw [List.length_take]; omega);obtain ⟨ll, hlq⟩ : ∃ ll, sibs tn (l.take i) id tier = ll := ⟨_, rfl⟩;rw [hlq] at HO HNX hlls;have hi1 : i + 1 <= nn := hlt;clear hx hcells hk hlq;by_cases ht0 : x.tier = tier
   ·have hbt : (x.tier == tier) = true := beq_iff_eq.2 ht0;have ht1 := hI ht0;clear ht0;by_cases hp0 : x.parent = id
    ·have hbp : (x.parent == id) = true := beq_iff_eq.2 hp0;have hp1 := hI hp0;clear hp0;by_cases h0 : 0 <= tier
     ·have hd0 : decide (tier ≥ 0) = true := decide_eq_true h0;by_cases h1 : tier < (tn : Int)
      ·have hd1 : decide (tier < (tn : Int)) = true := decide_eq_true h1;have HNX2 : Hid (sibs tn (l.take (i + 1)) id tier = ll ++ [x]) := by show _ = _; rw [HNX.out, if_pos ⟨ht1.out, hp1.out, h0, h1⟩]
       have HO1 : Hid (OwnR encN 7 58 (w0.alloc (.cells #[.int .i64 x.nid, .int .i64 x.tier, .int .i64 x.parent, .int .i64 x.at1, .int .i64 x.at2, .int .i64 x.rank, .string x.text] 58)) W0.heap.size u7 ll) := HO.out.on ((Below.refl _ w0).alloc (Nat.le_refl _) _);have hsa : (w0.alloc (.cells #[.int .i64 x.nid, .int .i64 x.tier, .int .i64 x.parent, .int .i64 x.at1, .int .i64 x.at2, .int .i64 x.rank, .string x.text] 58)).heap.size = w0.heap.size + 1 := by simp
       clear HO HNX;go_wp2_with (at_builtin; refine wpList_appN rfl (.tmp 41) (.tmp 43) 36 rfl W0.heap.size 58 7 64 (noteV nt0) info_note rfl (by omega) Tryz.underlying36 rfl HO1.out (by rw [hsa]; rfl) rfl (by simp [Value.oneCell']) (by omega) (by omega) (by omega) ?_; rintro v7' w4 hown7 hb7)
       have HO3 : Hid (OwnR encN 7 58 w4 W0.heap.size v7' (sibs tn (l.take (i + 1)) id tier)) := by
        show OwnR _ _ _ _ _ _ _;rw [HNX2.out];exact OwnR.snoc hown7
       have HB3 : Hid (Below W0.heap.size W0 w4) := HBA.out.trans hb7;clear HO1 HNX2 hown7 hb7;go_wp2;go_roundw
       case rel => exact ⟨i + 1, hi1, by go_num, HO3, HB3⟩
       case measure => have := HI.out; simp [intOf]; omega
      ·have hd1 : decide (tier < (tn : Int)) = false := decide_eq_false h1
       have HO2 : Hid (OwnR encN 7 58 (w0.alloc (.cells #[.int .i64 x.nid, .int .i64 x.tier, .int .i64 x.parent, .int .i64 x.at1, .int .i64 x.at2, .int .i64 x.rank, .string x.text] 58)) W0.heap.size u7 (sibs tn (l.take (i + 1)) id tier)) := by
        show OwnR _ _ _ _ _ _ _;rw [HNX.out, if_neg (fun h => h1 h.2.2.2), List.append_nil];exact HO.out.on ((Below.refl _ w0).alloc (Nat.le_refl _) _)
       clear HO HNX;go_wp2;go_roundw
       case rel => exact ⟨i + 1, hi1, by go_num, HO2, HBA⟩
       case measure => have := HI.out; simp [intOf]; omega
     ·have hd0 : decide (tier ≥ 0) = false := decide_eq_false h0
      have HO2 : Hid (OwnR encN 7 58 (w0.alloc (.cells #[.int .i64 x.nid, .int .i64 x.tier, .int .i64 x.parent, .int .i64 x.at1, .int .i64 x.at2, .int .i64 x.rank, .string x.text] 58)) W0.heap.size u7 (sibs tn (l.take (i + 1)) id tier)) := by
       show OwnR _ _ _ _ _ _ _;rw [HNX.out, if_neg (fun h => h0 h.2.2.1), List.append_nil];exact HO.out.on ((Below.refl _ w0).alloc (Nat.le_refl _) _)
      clear HO HNX;go_wp2;go_roundw
      case rel => exact ⟨i + 1, hi1, by go_num, HO2, HBA⟩
      case measure => have := HI.out; simp [intOf]; omega
    ·have hbp : (x.parent == id) = false := beq_eq_false_iff_ne.2 hp0
     have HO2 : Hid (OwnR encN 7 58 (w0.alloc (.cells #[.int .i64 x.nid, .int .i64 x.tier, .int .i64 x.parent, .int .i64 x.at1, .int .i64 x.at2, .int .i64 x.rank, .string x.text] 58)) W0.heap.size u7 (sibs tn (l.take (i + 1)) id tier)) := by
      show OwnR _ _ _ _ _ _ _;rw [HNX.out, if_neg (fun h => hp0 h.2.1), List.append_nil];exact HO.out.on ((Below.refl _ w0).alloc (Nat.le_refl _) _)
     clear HO HNX;go_wp2;go_roundw
     case rel => exact ⟨i + 1, hi1, by go_num, HO2, HBA⟩
     case measure => have := HI.out; simp [intOf]; omega
   ·have hbt : (x.tier == tier) = false := beq_eq_false_iff_ne.2 ht0
    have HO2 : Hid (OwnR encN 7 58 (w0.alloc (.cells #[.int .i64 x.nid, .int .i64 x.tier, .int .i64 x.parent, .int .i64 x.at1, .int .i64 x.at2, .int .i64 x.rank, .string x.text] 58)) W0.heap.size u7 (sibs tn (l.take (i + 1)) id tier)) := by
     show OwnR _ _ _ _ _ _ _;rw [HNX.out, if_neg (fun h => ht0 h.1), List.append_nil];exact HO.out.on ((Below.refl _ w0).alloc (Nat.le_refl _) _)
    clear HO HNX;go_wp2;go_roundw
    case rel => exact ⟨i + 1, hi1, by go_num, HO2, HBA⟩
    case measure => have := HI.out; simp [intOf]; omega
  ·obtain rfl : nn = i := by omega
   have hiz : ¬ (nn : Int) < (nn : Int) := by omega
   have HOE : Hid (OwnR encN 7 58 w0 W0.heap.size u7 (sibs tn l id tier)) := by
    have := HO.out;rw [List.take_of_length_le (by rw [HLN.out]; exact Nat.le_refl _)] at this;exact this
   have hls : (sibs tn l id tier).length < 20 := Nat.lt_of_le_of_lt sibs_len (by rw [HLN.out]; exact hn);have HSRT := hI (sortedN_any _ _ _ _ HOE.out hls);clear HO HOE;go_wp2_with fail
   refine HSRT.out.mono ?_;rintro e w1 ⟨rfl, ho1, hb1⟩;have HB1 : Hid (Below w.heap.size w w1) := HBW.out.trans (hb1.mono HB.out.size);have hsz1 : W0.heap.size <= w1.heap.size := Nat.le_trans HB0.out.size hb1.size;clear hb1 HSRT;obtain ⟨A, c, hv, hnc, hcm, hrr⟩ := ho1.form;have HKD : Hid (kidsL tn l id tier = (sortN (sibs tn l id tier)).map Nt.nid) := rfl
   have hlen : (sortN (sibs tn l id tier)).length < 20 := by
    have h1 := sortN_stable (sibs tn l id tier) _ (Nat.le_refl _);rw [List.take_length] at h1;rw [h1.perm.length_eq];exact hls
   obtain ⟨ls, hls2⟩ : ∃ ls, sortN (sibs tn l id tier) = ls := ⟨_, rfl⟩;rw [hls2] at hv hnc hrr HKD hlen;subst hv;have HR := hI hrr;clear hrr ho1 hls2 hls;obtain ⟨m, hm⟩ : ∃ m, ls.length = m := ⟨_, rfl⟩;rw [hm] at HR hnc hlen |-;have HM := hI hm;clear hm;go_wp2_with fail
   go_loopw [10, 12, 50] (fun v10 v12 v50 wr => ∃ k : Nat, k <= m /\ v50 = .int .i64 k /\ Hid (OwnI wr w1.heap.size v10 ((ls.map Nt.nid).take k)) /\ Hid (Below w1.heap.size w1 wr)) (fun _ _ v50 _ => m - (intOf v50).toNat)
   case atStart => exact ⟨0, Nat.zero_le _, rfl, (by rw [List.take_zero]; exact OwnI.nil _ _), Below.refl _ _⟩
   case round =>
    obtain ⟨k, hk, rfl, HO, HB2⟩ := hrel;obtain ⟨w2, hw2⟩ : ∃ w2, wr = w2 := ⟨_, rfl⟩;rw [hw2] at HO HB2 |-;clear hw2;by_cases hlt2 : k < m
    ·have hkz : (k : Int) < (m : Int) := by omega
     have hkA : (0 : Int) <= (k : Int) := by omega
     obtain ⟨ad, x, rfl, hab, hx, hcells⟩ := NotesR.at_ HR.out hlt2;obtain ⟨q0, q1, q2, q3, q4, q5, q6⟩ := hcells w2 HB2.out;have HI := hI hlt2;have HNX := hI (ids_take hx);have hll : ((ls.map Nt.nid).take k).length <= k := by rw [List.length_take]; omega
     obtain ⟨ll, hlq⟩ : ∃ ll, (ls.map Nt.nid).take k = ll := ⟨_, rfl⟩;rw [hlq] at HO HNX hll;have hsz2 := HB2.out.size;have HO1 := hI (HO.out.on ((Below.refl _ w2).alloc (Nat.le_refl _) (.cells #[.int .i64 x.nid, .int .i64 x.tier, .int .i64 x.parent, .int .i64 x.at1, .int .i64 x.at2, .int .i64 x.rank, .string x.text] 58)));have hsa : (w2.alloc (.cells #[.int .i64 x.nid, .int .i64 x.tier, .int .i64 x.parent, .int .i64 x.at1, .int .i64 x.at2, .int .i64 x.rank, .string x.text] 58)).heap.size = w2.heap.size + 1 := by simp
     have HB2' : Hid (Below w1.heap.size w1 (w2.alloc (.cells #[.int .i64 x.nid, .int .i64 x.tier, .int .i64 x.parent, .int .i64 x.at1, .int .i64 x.at2, .int .i64 x.rank, .string x.text] 58))) := HB2.out.alloc hsz2 _;clear hx hcells hlq HO;go_wp2_with (at_builtin; refine wpList_app1 rfl (.tmp 54) (.tmp 57) 32 rfl w1.heap.size 3 8 (.int .i64 0) info_int rfl Tryz.underlying32 rfl HO1.out (by rw [hsa]; rfl) rfl (by omega) (by omega) (by omega) ?_; rintro v7' w4 hown7 hb7 hs7 hk7; clear hk7)
     have hO3 := own_i hown7;rw [<- HNX.out] at hO3;have HO3 := hI hO3;have HB3 : Hid (Below w1.heap.size w1 w4) := HB2'.out.trans hb7;clear hO3 hown7 hb7 hs7 HO1;have hk1 : k + 1 <= m := HI.out;go_wp2;go_roundw
     case rel => exact ⟨k + 1, hk1, by go_num, HO3, HB3⟩
     case measure => have := HI.out; simp [intOf]; omega
    ·obtain rfl : m = k := by omega
     have hkz : ¬ (m : Int) < (m : Int) := by omega
     have h0 := HO.out;rw [List.take_of_length_le (by rw [List.length_map, HM.out]; exact Nat.le_refl _), <- HKD.out] at h0;have HO5 := hI h0;clear h0;go_wp2;go_ret;exact ⟨_, rfl, own_base HO5.out HB1.out.size, HB1.out.trans (HB2.out.mono HB1.out.size)⟩
end
section
open Go.RowKit Ru Lay
attribute [local go_sem ↓] Go.wp_at_zero Go.wp_at_succ
def sibF (l : List Nt) (tier parent : Int) : List Nt := l.filter fun n => decide (n.tier = tier) && decide (n.parent = parent)
def BoolIf (p : Bool -> Prop) (w : World) (e : Ending) (w' : World) : Prop := ∃ b : Bool, e = .returned (.bool b) /\ p b /\ Below w.heap.size w w'
theorem BoolIf.of {p : Bool -> Prop} {w w' : World} (b : Bool) (h : p b) (hb : Below w.heap.size w w') : BoolIf p w (.returned (.bool b)) w' := ⟨b, rfl, h, hb⟩
def NoOver (l : List Nt) : Prop := ∀ (i k : Nat) (x y : Nt), k < i -> l[i]? = some x -> l[k]? = some y -> ¬ (x.at1 < y.at2 /\ y.at1 < x.at2)
def Ranked (l : List Nt) : Prop := ∀ k, k < l.length -> ∃ (i : Nat) (x : Nt), l[i]? = some x /\ x.rank = (k : Int)
def encS (p : Int × Int) : List Value := [.int .i64 p.1, .int .i64 p.2]
theorem encS_len2 (p : Int × Int) : (encS p).length = 2 := rfl
def SpO (w : World) (base : Nat) (v : Value) (l : List (Int × Int)) : Prop := OwnR encS 2 56 w base v l
def SpR (w : World) (B : Nat) (A : Option Addr) (n : Nat) (l : List (Int × Int)) : Prop := RecR encS 2 w B A n l
theorem SpR.on {w w' : World} {n : Nat} {A : Option Addr} {l : List (Int × Int)} (h : SpR w w.heap.size A n l) (hb : Below w.heap.size w w') : SpR w' w'.heap.size A n l := RecR.on h hb
theorem SpR.at_ {w : World} {B n k : Nat} {A : Option Addr} {l : List (Int × Int)} (hh : SpR w B A n l) (hk : k < n) :
  ∃ ad x, A = some ad /\ ad.block < B /\ l[k]? = some x /\ ∀ W, Below B w W -> W.cell? (ad.add (k * 2)) = some (.int .i64 x.1) /\ W.cell? ⟨(ad.add (k * 2)).block, (ad.add (k * 2)).off + 1, none⟩ = some (.int .i64 x.2) := by
 obtain ⟨ad, x, e, hb, hx, _, _⟩ := RecR.at_ encS_len2 (by omega) hh hk;refine ⟨ad, x, e, hb, hx, fun W hW => ?_⟩;obtain ⟨ad', x', e', _, hx', h0, hj⟩ := RecR.at_ encS_len2 (by omega) (RecR.below hh hW) hk;rw [e] at e'
 cases e'
 rw [hx] at hx'
 cases hx'
 exact ⟨h0 _ rfl, hj 1 _ (by omega) rfl⟩
theorem SpO.form {w : World} {base : Nat} {v : Value} {l : List (Int × Int)} (h : SpO w base v l) : ∃ A c, v = .slice A l.length c /\ l.length <= c /\ c <= 9223372036854775807 /\ SpR w w.heap.size A l.length l := OwnR.form h
theorem SpO.on {w w' : World} {base : Nat} {v : Value} {l : List (Int × Int)} (h : SpO w base v l) (hb : Below w.heap.size w w') : SpO w' base v l := OwnR.on h hb
def SpPost (m : Nat) (w : World) (e : Ending) (w' : World) : Prop := ∃ v ys, e = .returned v /\ ys.length <= m /\ SpO w' w.heap.size v ys /\ Below w.heap.size w w'
theorem SpPost.of {m : Nat} {w w' : World} {v : Value} {ys : List (Int × Int)} (h : ys.length <= m) (ho : SpO w' w.heap.size v ys) (hb : Below w.heap.size w w') : SpPost m w (.returned v) w' := ⟨v, ys, rfl, h, ho, hb⟩
end
end Go.Proofs.YthcabnfcgjnlnaaGreatDoor
