import Derived.Test.YthcabnfcgjnlnaaGreatDoorLi05
set_option linter.unusedVariables false
set_option linter.unusedSimpArgs false
namespace Go.Proofs.YthcabnfcgjnlnaaGreatDoor
section
open Go.RowKit Ru Lay
attribute [local go_sem ↓] Go.wp_at_zero Go.wp_at_succ
set_option maxHeartbeats 4000000 in
set_option maxRecDepth 100000 in
theorem before_any (d : Dv) (T : List Ti) (l : List Nt) (hL : LightN T l) (hn : d.nn <= 9223372036854775807) : ∀ (f : Nat) (a b : Nt) (w : World), TiersR w w.heap.size d.ta d.tn T -> NotesR w w.heap.size d.na d.nn l -> a ∈ l -> b ∈ l -> a.tier = b.tier -> a.tier < (f : Int) ->
  Calls Tryz.prog 53 #[docV d, noteV a, noteV b] w fun e w' => e = .returned (.bool (befF T l f a b)) /\ Below w.heap.size w w'
 | 0, a, b, w, _, _, ha, _, _, hf => by have := (hL.tier a ha).1; omega
 | f + 1, a, b, w, hT, hl, ha, hb, ht, hf => by
  have HG1 := hI fun (W : World) (hW : Below w.heap.size w W) => refGet_any d l a.parent W (hl.on hW) hn
  have HG2 := hI fun (W : World) (hW : Below w.heap.size w W) => refGet_any d l b.parent W (hl.on hW) hn
  have HIH := hI fun (hp : a.parent ≠ b.parent) (W : World) (hW : Below w.heap.size w W) => by
   obtain ⟨m1, m2, h3, h4, _, _⟩ := hL.up (f := f) ha hb ht hf hp;exact before_any d T l hL hn f (parN l a) (parN l b) W (hT.on hW) (hl.on hW) m1 m2 h3 h4
  have HBE : Hid (befF T l (f + 1) a b = if a.parent = b.parent then decide (keyT T a < keyT T b) else befF T l f (parN l a) (parN l b)) := rfl;have htr := hL.tier a ha;have htl := hT.len;obtain ⟨j, hj⟩ : ∃ j : Nat, a.tier = (j : Int) := ⟨a.tier.toNat, by omega⟩;have hjn : j < d.tn := by omega
  obtain ⟨ad, t, hta, hab, htj, _, hcells⟩ := hT.at_ hjn;have htt : tierT T a.tier = t := by unfold tierT; rw [hj, Int.toNat_natCast, List.getD, htj]; rfl
  have HKEY : Hid (decide (keyT T a < keyT T b) = if timedK t.kind = true then decide (a.at1 < b.at1) else decide (a.rank < b.rank)) := by
   show _ = _;unfold keyT;rw [<- ht, htt];split <;> rfl
  have HCE := hI hcells;unfold parN at HIH HBE;obtain ⟨pa, hpa⟩ : ∃ p, (getN l a.parent).getD nt0 = p := ⟨_, rfl⟩;obtain ⟨pb, hpb⟩ : ∃ p, (getN l b.parent).getD nt0 = p := ⟨_, rfl⟩;obtain ⟨oa, hoa⟩ : ∃ p, (getN l a.parent).isSome = p := ⟨_, rfl⟩;obtain ⟨ob, hob⟩ : ∃ p, (getN l b.parent).isSome = p := ⟨_, rfl⟩;unfold getV at HG1 HG2;rw [hpa, hoa] at HG1;rw [hpb, hob] at HG2;rw [hpa, hpb] at HIH HBE;obtain ⟨v0, hv0⟩ : ∃ v, befF T l f pa pb = v := ⟨_, rfl⟩;rw [hv0] at HIH HBE;obtain ⟨res, hres⟩ : ∃ r, befF T l (f + 1) a b = r := ⟨_, rfl⟩;rw [hres] at HBE |-;unfold docV noteV at HG1 HG2 HIH;unfold docV noteV;obtain ⟨rid, name, len, day, sa, sn, sc, ta, tn, tc, na, nn, nc⟩ := d;simp only at *;subst hta;clear hT hl ha hb ht hf htr htl htj htt hcells hpa hpb hoa hob hv0 hres;have hjz : (j : Int) < (tn : Int) := by omega
  have hjA : (0 : Int) <= (j : Int) := by omega
  have HJ := hI hj;clear hj;go_enter Tryz.func53, Tryz.ntmps53
  go_upto_region 1 with fail
  obtain ⟨W0, hW0⟩ : ∃ W0, (((w.alloc (.cells #[.int .i64 rid, .string name, .int .i64 len, .int .i64 day, .slice sa sn sc, .slice (some ad) tn tc, .slice na nn nc] 38)).alloc (.cells #[.int .i64 a.nid, .int .i64 a.tier, .int .i64 a.parent, .int .i64 a.at1, .int .i64 a.at2, .int .i64 a.rank, .string a.text] 58)).alloc (.cells #[.int .i64 b.nid, .int .i64 b.tier, .int .i64 b.parent, .int .i64 b.at1, .int .i64 b.at2, .int .i64 b.rank, .string b.text] 58)) = W0 := ⟨_, rfl⟩;have HB0 : Hid (Below w.heap.size w W0) := by rw [<- hW0]; exact (((bR.alloc (by simp <;> omega) _).alloc (by simp <;> omega) _).alloc (by simp <;> omega) _)
  have hz0 : W0.heap.size = w.heap.size + 3 := by rw [<- hW0]; simp
  have HC0 : Hid (∀ X, Below W0.heap.size W0 X -> X.rangeAt (w.heap.size) 0 [.int .i64 rid, .string name, .int .i64 len, .int .i64 day, .slice sa sn sc, .slice (some ad) tn tc, .slice na nn nc] /\ X.rangeAt (w.heap.size + 1) 0 [.int .i64 a.nid, .int .i64 a.tier, .int .i64 a.parent, .int .i64 a.at1, .int .i64 a.at2, .int .i64 a.rank, .string a.text] /\ X.rangeAt (w.heap.size + 2) 0 [.int .i64 b.nid, .int .i64 b.tier, .int .i64 b.parent, .int .i64 b.at1, .int .i64 b.at2, .int .i64 b.rank, .string b.text]) := fun X hX => by
   refine ⟨?_, ?_, ?_⟩
   ·refine range_below hX (by omega) fun j v hv => ?_
    rw [<- hW0, Nat.zero_add]; rw [World.cell?_alloc_lt _ _ _ (by simp <;> omega)]; rw [World.cell?_alloc_lt _ _ _ (by simp <;> omega)]; rw [World.cell?_alloc_at _ _ _ _ (by simp), <- hv, <- List.getElem?_toArray]; try rfl
   ·refine range_below hX (by omega) fun j v hv => ?_
    rw [<- hW0, Nat.zero_add]; rw [World.cell?_alloc_lt _ _ _ (by simp <;> omega)]; rw [World.cell?_alloc_at _ _ _ _ (by simp), <- hv, <- List.getElem?_toArray]; try rfl
   ·refine range_below hX (by omega) fun j v hv => ?_
    rw [<- hW0, Nat.zero_add]; rw [World.cell?_alloc_at _ _ _ _ (by simp), <- hv, <- List.getElem?_toArray]; try rfl
  (try rw [hW0])
  clear hW0;obtain ⟨g0, g1, g2⟩ := HC0.out W0 bR;obtain ⟨k0, k1, k2, k3, k4, k5, k6⟩ := range7 g0;obtain ⟨m0, m1, m2, m3, m4, m5, m6⟩ := range7 g1;obtain ⟨n0, n1, n2, n3, n4, n5, n6⟩ := range7 g2;clear g0 g1 g2;by_cases hp : a.parent = b.parent
  ·have hpb : (a.parent != b.parent) = false := by rw [bne_eq_false_iff_eq]; exact hp
   have HRES : Hid (res = if timedK t.kind = true then decide (a.at1 < b.at1) else decide (a.rank < b.rank)) := by show _ = _; rw [HBE.out, if_pos hp, HKEY.out]
   obtain ⟨q0, q1, q2, q3⟩ := HCE.out W0 HB0.out;have m1' : W0.cell? ⟨w.heap.size + 1, 1, none⟩ = some (.int .i64 (j : Int)) := by rw [m1, HJ.out]
   clear hp m1 HBE
   cases htk : timedK t.kind with
   | true =>
    have HR2 : Hid (res = decide (a.at1 < b.at1)) := by show _ = _; rw [HRES.out, if_pos htk]
    have HAL := hI fun W => timed_sw t.kind W htk
    clear htk;go_wp2_with (with_reducible refine (HAL.out _).mono ?_; rintro e w5 ⟨rfl, rfl⟩)
    go_ret;exact ⟨ret_bool HR2.out.symm, HB0.out⟩
   | false =>
    have HR2 : Hid (res = decide (a.rank < b.rank)) := by show _ = _; rw [HRES.out, if_neg (by rw [htk]; simp)]
    have HAL := hI fun W => timed_sw t.kind W htk
    clear htk;go_wp2_with (with_reducible refine (HAL.out _).mono ?_; rintro e w5 ⟨rfl, rfl⟩)
    go_ret;exact ⟨ret_bool HR2.out.symm, HB0.out⟩
  ·have hpb : (a.parent != b.parent) = true := bne_iff_ne.2 hp;have HRES : Hid (res = v0) := by show _ = _; rw [HBE.out, if_neg hp]
   have HI := hI (HIH.out hp);clear hp HIH HKEY HBE;go_wp2_with fail
   refine (HG1.out W0 HB0.out).mono ?_;rintro e w1 ⟨rfl, hb1⟩;have HB1 : Hid (Below w.heap.size w w1) := HB0.out.trans (hb1.mono HB0.out.size);have HB01 : Hid (Below W0.heap.size W0 w1) := hb1;clear hb1 k0 k1 k2 k3 k4 k5 k6 m0 m1 m2 m3 m4 m5 m6 n0 n1 n2 n3 n4 n5 n6;go_upto_region 3 with fail
   obtain ⟨W2, hW2⟩ : ∃ W2, (w1.alloc (.cells #[.int .i64 pa.nid, .int .i64 pa.tier, .int .i64 pa.parent, .int .i64 pa.at1, .int .i64 pa.at2, .int .i64 pa.rank, .string pa.text] 58)) = W2 := ⟨_, rfl⟩;have HB2 : Hid (Below w1.heap.size w1 W2) := by rw [<- hW2]; exact (bR.alloc (by simp <;> omega) _)
   have hz2 : W2.heap.size = w1.heap.size + 1 := by rw [<- hW2]; simp
   have HC2 : Hid (∀ X, Below W2.heap.size W2 X -> X.rangeAt (w1.heap.size) 0 [.int .i64 pa.nid, .int .i64 pa.tier, .int .i64 pa.parent, .int .i64 pa.at1, .int .i64 pa.at2, .int .i64 pa.rank, .string pa.text]) := fun X hX => by
    refine range_below hX (by omega) fun j v hv => ?_
    rw [<- hW2, Nat.zero_add]; rw [World.cell?_alloc_at _ _ _ _ (by simp), <- hv, <- List.getElem?_toArray]; try rfl
   (try rw [hW2])
   clear hW2;have HBW2 : Hid (Below w.heap.size w W2) := HB1.out.trans (HB2.out.mono HB1.out.size);have HB02 : Hid (Below W0.heap.size W0 W2) := HB01.out.trans (HB2.out.mono HB01.out.size);obtain ⟨g0, g1, g2⟩ := HC0.out W2 HB02.out;obtain ⟨k0, k1, k2, k3, k4, k5, k6⟩ := range7 g0;have n2 : W2.cell? ⟨w.heap.size + 2, 2, none⟩ = some (.int .i64 b.parent) := g2 2 _ rfl;clear g0 g1 g2;go_wp2_with fail
   refine (HG2.out W2 HBW2.out).mono ?_;rintro e w3 ⟨rfl, hb3⟩;have HB3 : Hid (Below w.heap.size w w3) := HBW2.out.trans (hb3.mono HBW2.out.size);have HB03 : Hid (Below W0.heap.size W0 w3) := HB02.out.trans (hb3.mono HB02.out.size);have HB23 : Hid (Below W2.heap.size W2 w3) := hb3;clear hb3 n2 k0 k1 k2 k3 k4 k5 k6;go_upto_region 4 with fail
   obtain ⟨W4, hW4⟩ : ∃ W4, (w3.alloc (.cells #[.int .i64 pb.nid, .int .i64 pb.tier, .int .i64 pb.parent, .int .i64 pb.at1, .int .i64 pb.at2, .int .i64 pb.rank, .string pb.text] 58)) = W4 := ⟨_, rfl⟩;have HB4 : Hid (Below w3.heap.size w3 W4) := by rw [<- hW4]; exact (bR.alloc (by simp <;> omega) _)
   have hz4 : W4.heap.size = w3.heap.size + 1 := by rw [<- hW4]; simp
   have HC4 : Hid (∀ X, Below W4.heap.size W4 X -> X.rangeAt (w3.heap.size) 0 [.int .i64 pb.nid, .int .i64 pb.tier, .int .i64 pb.parent, .int .i64 pb.at1, .int .i64 pb.at2, .int .i64 pb.rank, .string pb.text]) := fun X hX => by
    refine range_below hX (by omega) fun j v hv => ?_
    rw [<- hW4, Nat.zero_add]; rw [World.cell?_alloc_at _ _ _ _ (by simp), <- hv, <- List.getElem?_toArray]; try rfl
   (try rw [hW4])
   clear hW4;have HBW4 : Hid (Below w.heap.size w W4) := HB3.out.trans (HB4.out.mono HB3.out.size);have HB04 : Hid (Below W0.heap.size W0 W4) := HB03.out.trans (HB4.out.mono HB03.out.size);have HB24 : Hid (Below W2.heap.size W2 W4) := HB23.out.trans (HB4.out.mono HB23.out.size);obtain ⟨g0, g1, g2⟩ := HC0.out W4 HB04.out;have g3 := HC2.out W4 HB24.out;have g4 := HC4.out W4 bR;obtain ⟨k0, k1, k2, k3, k4, k5, k6⟩ := range7 g0;obtain ⟨p0, p1, p2, p3, p4, p5, p6⟩ := range7 g3;obtain ⟨r0, r1, r2, r3, r4, r5, r6⟩ := range7 g4;clear g0 g1 g2 g3 g4;go_wp2_with fail
   refine (HI.out W4 HBW4.out).mono ?_;rintro e w5 ⟨rfl, hb5⟩;have HB5 : Hid (Below w.heap.size w w5) := HBW4.out.trans (hb5.mono HBW4.out.size);clear hb5;go_wp2;go_ret;exact ⟨ret_bool HRES.out.symm, HB5.out⟩
end
section
open Go Go.RowKit
section
variable {P : Program} {Q : Exit → Act → World → Prop}
theorem oper_appR {o : Oper} {a : Act} {w : World} {K : Act -> World -> Prop} (s x : Operand) (t : TypeId)
  (ho : o.op = .call { callee := .builtin .append, args := #[s, x], argTypes := #[t, t] })
  (base : Nat) (e : TypeId) (size bytes : Nat) (z : Value) (hinfo : (P.info? e).map (fun i => (i.zero, i.size, i.bytes)) = some (some z, size, bytes)) (hzc : z.cells.size = size) (hs0 : 0 < size) (ht : P.underlying t = some (.slice e))
  {v : Value} {n : Nat} {xs : List Value} (hs : a.eval s = v) (hown : w.ownsRow base e size v n xs)
  {B : Nat} {A : Option Addr} {m c : Nat} {news : List Value} (hx : a.eval x = .slice A m c) (hr : Reads w B size A m news) (h1 : ∀ u ∈ news, u.oneCell' = true)
  (h63 : n + m <= 9223372036854775807) (hbytes : (n + m) * bytes <= 140737488355328) (hbase : base <= w.heap.size)
  (h : ∀ v' w', w'.ownsRow base e size v' (n + m) (xs ++ news) -> w.grownBy w' v.ownBlock -> (v'.ownBlock = v.ownBlock ∨ v'.ownBlock = some w.heap.size) -> K (a.put o.dst v') w') :
  o.wp P a w K Q := by
 obtain ⟨i0, hi, hz0, hz1, hz2⟩ := info_parts hinfo
 cases A with
 | none =>
  have hm : m = 0 := by
   rcases Nat.eq_zero_or_pos m with h | h
   ·exact h
   ·obtain ⟨_, hc, _⟩ := hr.2 h
    cases hc
  have hnw : news = [] := List.eq_nil_of_length_eq_zero (by rw [hr.1, hm, Nat.zero_mul]);subst hm hnw;have hrun := append_nil_run (P := P) w base t o.type e i0 size ht hi hown c;unfold Oper.wp execOp;simp only [ho, resolve, invoke, builtin, Sem.run_bind, Sem.run_pure, Result.andThen_ok, List.map_toArray, List.map_cons, List.map_nil, hs, hx, hrun];exact h v w (by simpa using hown) (World.grownBy.refl w _) (.inl rfl)
 | some ad =>
  have hc : ∀ j u, news[j]? = some u -> w.cell? (ad.add j) = some u := by
   intro j u hu;have hj := (List.getElem?_eq_some_iff.1 hu).1;have hl := hr.1
   have hm : 0 < m := by
    rcases Nat.eq_zero_or_pos m with h0 | h0
    ·rw [h0, Nat.zero_mul] at hl; omega
    ·exact h0
   obtain ⟨ad', h2, _, h3⟩ := hr.2 hm
   cases h2;exact h3 j u hu
  exact oper_append_own s x t ho base e i0 z size bytes ht hi hz0 hz1 hz2 hzc hs0 v n xs hs hown ad m c news hx hr.1 hc h1 (by unfold maxLen; omega) hbytes hbase fun v' w' h2 h3 _ h4 => h v' w' h2 h3 h4
theorem step_appR {ops : Array Oper} {o : Oper} {a : Act} {w : World} {K : Act -> World -> Prop} {E : Prop} (hgd : o.guard = none) (s x : Operand) (t : TypeId)
  (ho : o.op = .call { callee := .builtin .append, args := #[s, x], argTypes := #[t, t] })
  (base : Nat) (e : TypeId) (size bytes : Nat) (z : Value) (hinfo : (P.info? e).map (fun i => (i.zero, i.size, i.bytes)) = some (some z, size, bytes)) (hzc : z.cells.size = size) (hs0 : 0 < size) (ht : P.underlying t = some (.slice e))
  {v : Value} {n : Nat} {xs : List Value} (hs : a.eval s = v) (hown : w.ownsRow base e size v n xs)
  {B : Nat} (A : Option Addr) (m c : Nat) {news : List Value} (hx : a.eval x = .slice A m c) (hr : Reads w B size A m news) (h1 : ∀ u ∈ news, u.oneCell' = true)
  (h63 : n + m <= 9223372036854775807) (hbytes : (n + m) * bytes <= 140737488355328) (hbase : base <= w.heap.size)
  (h : ∀ v' w', w'.ownsRow base e size v' (n + m) (xs ++ news) -> w.grownBy w' v.ownBlock -> (v'.ownBlock = v.ownBlock ∨ v'.ownBlock = some w.heap.size) -> K (a.put o.dst v') w') :
  if Region.wanted o (yielded ops a.tmps) = true then Oper.wp P o a w K Q else E := by
 have hw : Region.wanted o (yielded ops a.tmps) = true := by simp [Region.wanted, hgd]
 rw [if_pos hw];exact oper_appR s x t ho base e size bytes z hinfo hzc hs0 ht hs hown hx hr h1 h63 hbytes hbase h
end
section
variable {α : Type} {f : α → List Value} {s : Nat}
theorem flat_take (hf : ∀ x, (f x).length = s) : ∀ (l : List α) (k : Nat), (l.take k).flatMap f = (l.flatMap f).take (k * s)
 | [], k => by simp
 | x :: l, 0 => by simp
 | x :: l, k + 1 => by
  rw [List.take_succ_cons, List.flatMap_cons, List.flatMap_cons, flat_take hf l k, List.take_append, hf, show (k + 1) * s - s = k * s by rw [Nat.add_mul]; omega, show (f x).take ((k + 1) * s) = f x from List.take_of_length_le (by rw [hf, Nat.add_mul]; omega)]
theorem flat_drop (hf : ∀ x, (f x).length = s) : ∀ (l : List α) (k : Nat), (l.drop k).flatMap f = (l.flatMap f).drop (k * s)
 | [], k => by simp
 | x :: l, 0 => by simp
 | x :: l, k + 1 => by
  rw [List.drop_succ_cons, List.flatMap_cons, flat_drop hf l k, List.drop_append, hf, show (k + 1) * s - s = k * s by rw [Nat.add_mul]; omega, show (f x).drop ((k + 1) * s) = [] from List.drop_of_length_le (by rw [hf, Nat.add_mul]; omega), List.nil_append]
theorem Reads.takeR {w : World} {B n k : Nat} {A : Option Addr} {l : List α} (hf : ∀ x, (f x).length = s) (h : Reads w B s A n (l.flatMap f)) (hk : k <= n) : Reads w B s A k ((l.take k).flatMap f) := by
 rw [flat_take hf];have hks : k * s <= n * s := Nat.mul_le_mul_right s hk;refine ⟨by rw [List.length_take, h.1]; omega, fun h0 => ?_⟩;obtain ⟨ad, e, hb, hc⟩ := h.2 (by omega);refine ⟨ad, e, hb, fun j u hu => ?_⟩;rw [List.getElem?_take] at hu;split at hu
 ·exact hc j u hu
 ·cases hu
theorem Reads.cutR {w : World} {B n k cap : Nat} {A : Option Addr} {l : List α} (hf : ∀ x, (f x).length = s) (h : Reads w B s A n (l.flatMap f)) (hk : k <= n) (hc : n <= cap) : Reads w B s (if cap = k then A else Option.map (fun x => x.add (k * s)) A) (n - k) ((l.drop k).flatMap f) := by
 rw [flat_drop hf];refine ⟨by rw [List.length_drop, h.1, Nat.sub_mul], fun h0 => ?_⟩;obtain ⟨ad, e, hb, hcell⟩ := h.2 (by omega);subst e;rw [if_neg (by omega)];refine ⟨ad.add (k * s), rfl, by rw [block_of_add]; exact hb, fun j u hu => ?_⟩;rw [add_of_add];exact hcell _ u (by rw [<- hu, List.getElem?_drop])
end
end
end Go.Proofs.YthcabnfcgjnlnaaGreatDoor
