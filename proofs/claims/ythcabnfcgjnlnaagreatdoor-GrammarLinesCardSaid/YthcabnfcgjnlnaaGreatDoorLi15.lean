import Derived.Test.YthcabnfcgjnlnaaGreatDoorLi14
set_option linter.unusedVariables false
set_option linter.unusedSimpArgs false
namespace Go.Proofs.YthcabnfcgjnlnaaGreatDoor
section
open Go.RowKit Ru Lay
attribute [local go_sem ↓] Go.wp_at_zero Go.wp_at_succ
structure LightB (x : Bk) : Prop where
 dn : x.dn <= 4
 ok : ∀ y ∈ x.D, DcOk y
 inc : IncD x.D
 pn : x.pn <= 45
 few : ∀ p ∈ x.L, FewP p
theorem LightB.lim {x : Bk} {w : World} (hL : LightB x) (h : BkR w x) : ∀ p ∈ x.L, p.refs.length <= 1000 /\ p.title.size <= 1000000 := fun p hp => by
 have h1 := (hL.few p hp).1;have h2 := (hL.few p hp).2.2;have h3 := (h.pts.2 p hp).refs.len;omega
def LightPost (x : Bk) (w : World) (e : Ending) (w' : World) : Prop := ∃ b, e = .returned (.bool b) /\ (b = true -> LightB x) /\ Below w.heap.size w w'
structure DInv (D : List Dc) (i : Nat) : Prop where
 ok : ∀ j y, j < i -> D[j]? = some y -> DcOk y
 inc : ∀ j y z, j + 1 < i -> D[j]? = some y -> D[j + 1]? = some z -> y.d.rid < z.d.rid
theorem DInv.next {D : List Dc} {i : Nat} {x : Dc} (h : DInv D i) (hx : D[i]? = some x) (hok : DcOk x) (hl : ∀ j z, j + 1 = i -> D[j]? = some z -> z.d.rid < x.d.rid) : DInv D (i + 1) := by
 refine ⟨fun j y hj hy => ?_, fun j y z hj hy hz => ?_⟩
 ·by_cases e : j = i
  ·subst e;rw [hx] at hy
   cases hy;exact hok
  ·exact h.ok j y (by omega) hy
 ·by_cases e : j + 1 = i
  ·rw [e, hx] at hz
   cases hz;exact hl j y e hy
  ·exact h.inc j y z (by omega) hy hz
theorem dcs_two {A : Option Addr} {n : Nat} {D : List Dc} {w : World} (h : DcsR w w.heap.size A n D) {i k : Nat} (hi : i < n) (hk : k < n) : ∃ (ad : Addr) (x y : Dc), A = some ad /\ D[i]? = some x /\ D[k]? = some y /\ x ∈ D /\ (∀ W, Below w.heap.size w W ->
  W.cell? (ad.add (i * 7)) = some (.int .i64 x.d.rid) /\ W.cell? ⟨(ad.add (i * 7)).block, (ad.add (i * 7)).off + 1, none⟩ = some (.string x.d.name) /\ W.cell? ⟨(ad.add (i * 7)).block, (ad.add (i * 7)).off + 2, none⟩ = some (.int .i64 x.d.len) /\ W.cell? ⟨(ad.add (i * 7)).block, (ad.add (i * 7)).off + 3, none⟩ = some (.int .i64 x.d.day) /\ W.cell? ⟨(ad.add (i * 7)).block, (ad.add (i * 7)).off + 4, none⟩ = some (.slice x.d.sa x.d.sn x.d.sc) /\ W.cell? ⟨(ad.add (i * 7)).block, (ad.add (i * 7)).off + 5, none⟩ = some (.slice x.d.ta x.d.tn x.d.tc) /\ W.cell? ⟨(ad.add (i * 7)).block, (ad.add (i * 7)).off + 6, none⟩ = some (.slice x.d.na x.d.nn x.d.nc)) /\
  (∀ W, Below w.heap.size w W -> W.cell? (ad.add (k * 7)) = some (.int .i64 y.d.rid)) := by
 obtain ⟨ad, x, hA, _, hx, hxm, hc⟩ := h.at_ hi;obtain ⟨ad2, y, hA2, _, hy, _, hd⟩ := h.at_ hk;subst hA
 cases hA2;exact ⟨ad, x, y, rfl, hx, hy, hxm, hc, fun W hW => (hd W hW).1⟩
set_option maxHeartbeats 4000000 in
set_option maxRecDepth 100000 in
theorem light55_any (x : Bk) (w : World) (h : BkR w x) : Calls Tryz.prog 24 #[bookV x] w (LightPost x w) := by
 have HLT0 := hI fun (y : Dc) (hy : y ∈ x.D) (W : World) (hW : Below w.heap.size w W) => lightD_any y.d y.T y.l W ((h.docs.on hW).2 y hy).1 ((h.docs.on hW).2 y hy).2
 have HDS := hI h.docs;have HFW := hI fun (W : World) (hW : Below w.heap.size w W) => few55_any x.pa x.pn x.pc x.L W (h.pts.on hW) h.sizes.2.2
 have HPO := hI fun (hf : ∀ p ∈ x.L, FewP p) (W : World) (hW : Below w.heap.size w W) => points47_any x.ea x.en x.ec x.E x.pa x.pn x.pc x.L W (RecR.on h.lex hW) h.sizes.2.1 (h.pts.on hW) h.sizes.2.2 (h.ents.on hW) fun p hp => ⟨by have := (hf p hp).1; omega, (h.pts.2 p hp).size.2.2⟩
 have hdz := h.sizes.1;have hez := h.sizes.2.1;clear h;unfold bookV;obtain ⟨da, dn, dc, D, ea, en, ec, E, pa, pn, pc, L⟩ := x;simp only at HLT0 HDS HFW HPO hdz hez |-;obtain ⟨W0, hW0⟩ : ∃ W0, w.alloc (.cells #[.slice da dn dc, .slice ea en ec, .slice pa pn pc] 51) = W0 := ⟨_, rfl⟩;have HB : Hid (Below w.heap.size w W0) := by rw [<- hW0]; exact (Below.refl _ w).alloc (Nat.le_refl _) _
 have hz0 : W0.heap.size = w.heap.size + 1 := by rw [<- hW0]; simp
 have HK : Hid (∀ W, Below W0.heap.size W0 W -> W.rangeAt w.heap.size 0 [.slice da dn dc, .slice ea en ec, .slice pa pn pc]) := fun W hW j v hv => by
  rw [hW.cell (p := ⟨w.heap.size, 0 + j, none⟩) (by show w.heap.size < _; omega), <- hW0, Nat.zero_add, World.cell?_alloc_new, <- hv, <- List.getElem?_toArray]
 have HBW : Hid (∀ W, Below W0.heap.size W0 W -> Below w.heap.size w W) := fun W hW => HB.out.trans (hW.mono HB.out.size)
 go_enter Tryz.func24, Tryz.ntmps24
 go_upto_region 1 with fail
 (try rw [hW0])
 clear hW0;go_wp2_with fail
 go_loopw [3] (fun v3 wr => ∃ i : Nat, i <= dn /\ i <= 5 /\ v3 = .int .i64 i /\ Hid (DInv D i) /\ Hid (Below W0.heap.size W0 wr)) (fun v3 _ => dn - (intOf v3).toNat)
 case atStart => exact ⟨0, Nat.zero_le _, by omega, rfl, ⟨fun j y h => by omega, fun j y z h => by omega⟩, Below.refl _ _⟩
 case round =>
  obtain ⟨i, hi, hi5, rfl, HD, HB2'⟩ := hrel;obtain ⟨w2, hw2⟩ : ∃ w2, wr = w2 := ⟨_, rfl⟩;rw [hw2] at HB2' |-;clear hw2;have HB2 : Hid (Below w.heap.size w w2) := HBW.out _ HB2'.out;have k0 : w2.cell? ⟨w.heap.size, 0, none⟩ = some (.slice da dn dc) := HK.out w2 HB2'.out 0 _ rfl;have k1 : w2.cell? ⟨w.heap.size, 1, none⟩ = some (.slice ea en ec) := HK.out w2 HB2'.out 1 _ rfl;have k2 : w2.cell? ⟨w.heap.size, 2, none⟩ = some (.slice pa pn pc) := HK.out w2 HB2'.out 2 _ rfl;by_cases hlt : i < dn
  ·have hiz : (i : Int) < (dn : Int) := by omega
   have hiA : (0 : Int) <= (i : Int) := by omega
   by_cases h5 : i < 5
   ·have h5z : (i : Int) < 5 := by omega
    obtain ⟨k, hk⟩ : ∃ k, k = i - 1 := ⟨_, rfl⟩;have hkz : (k : Int) < (dn : Int) := by omega
    have hkA : (0 : Int) <= (k : Int) := by omega
    obtain ⟨ad, x, y, rfl, hx, hy, hxm, hcx, hcy⟩ := dcs_two HDS.out hlt (show k < dn by omega);have HXD := hI hx;have HYD := hI hy;have HX := hI hcx;have HY := hI hcy;have HLT : Hid (∀ W, Below w2.heap.size w2 W -> _) := fun W hW => HLT0.out x hxm W (HB2.out.trans (hW.mono HB2.out.size))
    unfold docV at HLT;have HBX : Hid (∀ W, Below w2.heap.size w2 W -> W.cell? ⟨w.heap.size, 0, none⟩ = some (.slice (some ad) dn dc)) := fun W hW => HK.out W (HB2'.out.trans (hW.mono HB2'.out.size)) 0 _ rfl
    have HLT1 := hI hlt;have H51 : Hid (i + 1 <= 5) := h5;have HKI := hI hk;clear hx hy hcx hcy hxm hlt h5 k1 k2;by_cases h0 : 0 < i
    ·have d0 : decide (0 < i) = true := decide_eq_true h0;have d0z : decide ((0 : Int) < (i : Int)) = true := decide_eq_true (by omega);have hwk : IntKind.i64.wrap ((i : Int) - 1) = (k : Int) := by rw [IntKind.wrap_i64]; omega
     obtain ⟨le, hle⟩ : ∃ b, decide (x.d.rid <= y.d.rid) = b := ⟨_, rfl⟩;have HLE := hI hle;clear h0 hk;go_upto_region 4 with fail
     clear k0;refine wp_region_toldP 5 (fun b => match b with | true => [Told.is (.pointer (some ⟨w.heap.size, 0, none⟩)), Told.is (.slice (some ad) dn dc), Told.is (.int .i64 (i : Int)), Told.is (.pointer (some (ad.add (i * 7)))), Told.is (.agg #[.int .i64 x.d.rid, .string x.d.name, .int .i64 x.d.len, .int .i64 x.d.day, .slice x.d.sa x.d.sn x.d.sc, .slice x.d.ta x.d.tn x.d.tc, .slice x.d.na x.d.nn x.d.nc]), Told.such (fun v W => v = .bool true /\ ((x.d.nn <= 14 /\ x.d.tn <= 6) /\ DocOk x.T x.l)) (fun v W W' h hb => h), Told.is (.bool false), Told.is (.bool false), Told.is (.int .i64 (i : Int)), Told.is (.bool true), Told.is (.bool true), Told.is (.pointer (some ⟨w.heap.size, 0, none⟩)), Told.is (.slice (some ad) dn dc), Told.is (.int .i64 (i : Int)), Told.is (.pointer (some (ad.add (i * 7)))), Told.is (.pointer (some (ad.add (i * 7)))), Told.is (.pointer (some (ad.add (i * 7)))), Told.is (.int .i64 x.d.rid), Told.is (.pointer (some ⟨w.heap.size, 0, none⟩)), Told.is (.slice (some ad) dn dc), Told.is (.int .i64 (i : Int)), Told.is (.int .i64 (k : Int)), Told.is (.pointer (some (ad.add (k * 7)))), Told.is (.pointer (some (ad.add (k * 7)))), Told.is (.pointer (some (ad.add (k * 7)))), Told.is (.int .i64 y.d.rid), Told.is (.bool le), Told.is (.bool le), Told.is (.bool le)] | false => [Told.is (.pointer (some ⟨w.heap.size, 0, none⟩)), Told.is (.slice (some ad) dn dc), Told.is (.int .i64 (i : Int)), Told.is (.pointer (some (ad.add (i * 7)))), Told.is (.agg #[.int .i64 x.d.rid, .string x.d.name, .int .i64 x.d.len, .int .i64 x.d.day, .slice x.d.sa x.d.sn x.d.sc, .slice x.d.ta x.d.tn x.d.tc, .slice x.d.na x.d.nn x.d.nc]), Told.is (.bool false), Told.is (.bool true), Told.is (.bool true), Told.is (undef), Told.is (undef), Told.is (undef), Told.is (undef), Told.is (undef), Told.is (undef), Told.is (undef), Told.is (undef), Told.is (undef), Told.is (undef), Told.is (undef), Told.is (undef), Told.is (undef), Told.is (undef), Told.is (undef), Told.is (undef), Told.is (undef), Told.is (undef), Told.is (undef), Told.is (undef), Told.is (.bool true)]) (by kernel_rfl) (by kernel_rfl) (fun i hi => match i, hi with | 0, _ => rfl | 1, _ => rfl | 2, _ => rfl | 3, _ => rfl | 4, _ => rfl | n + 5, h => absurd h (by omega)) ?_ ?_
     ·intro b
      cases b with
      | true =>
       repeat (refine And.intro ?_ ?_; rotate_left)
       exact trivial
       iterate 5
        ·intro w1 vals hB hd K hK;(try have e0 := tI (hd 0 rfl) rfl)
         (try have e1 := tI (hd 1 rfl) rfl)
         (try have e2 := tI (hd 2 rfl) rfl)
         (try have e3 := tI (hd 3 rfl) rfl)
         (try have e4 := tI (hd 4 rfl) rfl)
         clear hd;simp only [putAll, Act.put, pS] at hK |-;(try simp only [e0] at hK |-)
         (try simp only [e1] at hK |-)
         (try simp only [e2] at hK |-)
         (try simp only [e3] at hK |-)
         (try simp only [e4] at hK |-)
         have cb := HBX.out w1 hB;obtain ⟨q0, q1, q2, q3, q4, q5, q6⟩ := HX.out w1 (HB2.out.trans (hB.mono HB2.out.size));have r0 := HY.out w1 (HB2.out.trans (hB.mono HB2.out.size));refine gwpU_none rfl ?_;go_simp;exact hK _ _ rfl bR
       ·intro w1 vals hB hd K hK;(try have e0 := tI (hd 0 rfl) rfl)
        (try have e1 := tI (hd 1 rfl) rfl)
        (try have e2 := tI (hd 2 rfl) rfl)
        (try have e3 := tI (hd 3 rfl) rfl)
        (try have e4 := tI (hd 4 rfl) rfl)
        clear hd;simp only [putAll, Act.put, pS] at hK |-;(try simp only [e0] at hK |-)
        (try simp only [e1] at hK |-)
        (try simp only [e2] at hK |-)
        (try simp only [e3] at hK |-)
        (try simp only [e4] at hK |-)
        have cb := HBX.out w1 hB;obtain ⟨q0, q1, q2, q3, q4, q5, q6⟩ := HX.out w1 (HB2.out.trans (hB.mono HB2.out.size));have r0 := HY.out w1 (HB2.out.trans (hB.mono HB2.out.size));refine gwpU_none rfl ?_;go_simp;refine (HLT.out w1 hB).mono ?_;rintro e w4 ⟨bb, rfl, hlf, hb4⟩
        cases bb with
        | false => exact hK _ _ ⟨false, rfl⟩ hb4
        | true => exact hK _ _ ⟨true, rfl, hlf rfl⟩ hb4
       iterate 2
        ·intro w1 vals hB hd K hK;(try have e0 := tI (hd 0 rfl) rfl)
         (try have e1 := tI (hd 1 rfl) rfl)
         (try have e2 := tI (hd 2 rfl) rfl)
         (try have e3 := tI (hd 3 rfl) rfl)
         (try have e4 := tI (hd 4 rfl) rfl)
         (try have e5 : vals 5 = .bool true := (told_at (hd 5 rfl) rfl).1)
         (try have e6 := tI (hd 6 rfl) rfl)
         (try have e7 := tI (hd 7 rfl) rfl)
         clear hd;simp only [putAll, Act.put, pS] at hK |-;(try simp only [e0] at hK |-)
         (try simp only [e1] at hK |-)
         (try simp only [e2] at hK |-)
         (try simp only [e3] at hK |-)
         (try simp only [e4] at hK |-)
         (try simp only [e5] at hK |-)
         (try simp only [e6] at hK |-)
         (try simp only [e7] at hK |-)
         have cb := HBX.out w1 hB;obtain ⟨q0, q1, q2, q3, q4, q5, q6⟩ := HX.out w1 (HB2.out.trans (hB.mono HB2.out.size));have r0 := HY.out w1 (HB2.out.trans (hB.mono HB2.out.size));refine gwpU_none rfl ?_;go_simp;exact hK _ _ rfl bR
       iterate 3
        ·intro w1 vals hB hd K hK;(try have e0 := tI (hd 0 rfl) rfl)
         (try have e1 := tI (hd 1 rfl) rfl)
         (try have e2 := tI (hd 2 rfl) rfl)
         (try have e3 := tI (hd 3 rfl) rfl)
         (try have e4 := tI (hd 4 rfl) rfl)
         (try have e5 : vals 5 = .bool true := (told_at (hd 5 rfl) rfl).1)
         (try have e6 := tI (hd 6 rfl) rfl)
         (try have e7 := tI (hd 7 rfl) rfl)
         (try have e8 := tI (hd 8 rfl) rfl)
         (try have e9 := tI (hd 9 rfl) rfl)
         (try have e10 := tI (hd 10 rfl) rfl)
         clear hd;simp only [putAll, Act.put, pS] at hK |-;(try simp only [e0] at hK |-)
         (try simp only [e1] at hK |-)
         (try simp only [e2] at hK |-)
         (try simp only [e3] at hK |-)
         (try simp only [e4] at hK |-)
         (try simp only [e5] at hK |-)
         (try simp only [e6] at hK |-)
         (try simp only [e7] at hK |-)
         (try simp only [e8] at hK |-)
         (try simp only [e9] at hK |-)
         (try simp only [e10] at hK |-)
         have cb := HBX.out w1 hB;obtain ⟨q0, q1, q2, q3, q4, q5, q6⟩ := HX.out w1 (HB2.out.trans (hB.mono HB2.out.size));have r0 := HY.out w1 (HB2.out.trans (hB.mono HB2.out.size));refine gwpU_some rfl e7 ?_;go_simp;exact hK _ _ rfl bR
       iterate 16
        ·intro w1 vals hB hd K hK;(try have e0 := tI (hd 0 rfl) rfl)
         (try have e1 := tI (hd 1 rfl) rfl)
         (try have e2 := tI (hd 2 rfl) rfl)
         (try have e3 := tI (hd 3 rfl) rfl)
         (try have e4 := tI (hd 4 rfl) rfl)
         (try have e5 : vals 5 = .bool true := (told_at (hd 5 rfl) rfl).1)
         (try have e6 := tI (hd 6 rfl) rfl)
         (try have e7 := tI (hd 7 rfl) rfl)
         (try have e8 := tI (hd 8 rfl) rfl)
         (try have e9 := tI (hd 9 rfl) rfl)
         (try have e10 := tI (hd 10 rfl) rfl)
         (try have e11 := tI (hd 11 rfl) rfl)
         (try have e12 := tI (hd 12 rfl) rfl)
         (try have e13 := tI (hd 13 rfl) rfl)
         (try have e14 := tI (hd 14 rfl) rfl)
         (try have e15 := tI (hd 15 rfl) rfl)
         (try have e16 := tI (hd 16 rfl) rfl)
         (try have e17 := tI (hd 17 rfl) rfl)
         (try have e18 := tI (hd 18 rfl) rfl)
         (try have e19 := tI (hd 19 rfl) rfl)
         (try have e20 := tI (hd 20 rfl) rfl)
         (try have e21 := tI (hd 21 rfl) rfl)
         (try have e22 := tI (hd 22 rfl) rfl)
         (try have e23 := tI (hd 23 rfl) rfl)
         (try have e24 := tI (hd 24 rfl) rfl)
         (try have e25 := tI (hd 25 rfl) rfl)
         (try have e26 := tI (hd 26 rfl) rfl)
         clear hd;simp only [putAll, Act.put, pS] at hK |-;(try simp only [e0] at hK |-)
         (try simp only [e1] at hK |-)
         (try simp only [e2] at hK |-)
         (try simp only [e3] at hK |-)
         (try simp only [e4] at hK |-)
         (try simp only [e5] at hK |-)
         (try simp only [e6] at hK |-)
         (try simp only [e7] at hK |-)
         (try simp only [e8] at hK |-)
         (try simp only [e9] at hK |-)
         (try simp only [e10] at hK |-)
         (try simp only [e11] at hK |-)
         (try simp only [e12] at hK |-)
         (try simp only [e13] at hK |-)
         (try simp only [e14] at hK |-)
         (try simp only [e15] at hK |-)
         (try simp only [e16] at hK |-)
         (try simp only [e17] at hK |-)
         (try simp only [e18] at hK |-)
         (try simp only [e19] at hK |-)
         (try simp only [e20] at hK |-)
         (try simp only [e21] at hK |-)
         (try simp only [e22] at hK |-)
         (try simp only [e23] at hK |-)
         (try simp only [e24] at hK |-)
         (try simp only [e25] at hK |-)
         (try simp only [e26] at hK |-)
         have cb := HBX.out w1 hB;obtain ⟨q0, q1, q2, q3, q4, q5, q6⟩ := HX.out w1 (HB2.out.trans (hB.mono HB2.out.size));have r0 := HY.out w1 (HB2.out.trans (hB.mono HB2.out.size));refine gwpU_some rfl e10 ?_;go_simp;exact hK _ _ rfl bR
       ·intro w1 vals hB hd K hK;(try have e0 := tI (hd 0 rfl) rfl)
        (try have e1 := tI (hd 1 rfl) rfl)
        (try have e2 := tI (hd 2 rfl) rfl)
        (try have e3 := tI (hd 3 rfl) rfl)
        (try have e4 := tI (hd 4 rfl) rfl)
        (try have e5 : vals 5 = .bool true := (told_at (hd 5 rfl) rfl).1)
        (try have e6 := tI (hd 6 rfl) rfl)
        (try have e7 := tI (hd 7 rfl) rfl)
        (try have e8 := tI (hd 8 rfl) rfl)
        (try have e9 := tI (hd 9 rfl) rfl)
        (try have e10 := tI (hd 10 rfl) rfl)
        (try have e11 := tI (hd 11 rfl) rfl)
        (try have e12 := tI (hd 12 rfl) rfl)
        (try have e13 := tI (hd 13 rfl) rfl)
        (try have e14 := tI (hd 14 rfl) rfl)
        (try have e15 := tI (hd 15 rfl) rfl)
        (try have e16 := tI (hd 16 rfl) rfl)
        (try have e17 := tI (hd 17 rfl) rfl)
        (try have e18 := tI (hd 18 rfl) rfl)
        (try have e19 := tI (hd 19 rfl) rfl)
        (try have e20 := tI (hd 20 rfl) rfl)
        (try have e21 := tI (hd 21 rfl) rfl)
        (try have e22 := tI (hd 22 rfl) rfl)
        (try have e23 := tI (hd 23 rfl) rfl)
        (try have e24 := tI (hd 24 rfl) rfl)
        (try have e25 := tI (hd 25 rfl) rfl)
        (try have e26 := tI (hd 26 rfl) rfl)
        (try have e27 := tI (hd 27 rfl) rfl)
        clear hd;simp only [putAll, Act.put, pS] at hK |-;(try simp only [e0] at hK |-)
        (try simp only [e1] at hK |-)
        (try simp only [e2] at hK |-)
        (try simp only [e3] at hK |-)
        (try simp only [e4] at hK |-)
        (try simp only [e5] at hK |-)
        (try simp only [e6] at hK |-)
        (try simp only [e7] at hK |-)
        (try simp only [e8] at hK |-)
        (try simp only [e9] at hK |-)
        (try simp only [e10] at hK |-)
        (try simp only [e11] at hK |-)
        (try simp only [e12] at hK |-)
        (try simp only [e13] at hK |-)
        (try simp only [e14] at hK |-)
        (try simp only [e15] at hK |-)
        (try simp only [e16] at hK |-)
        (try simp only [e17] at hK |-)
        (try simp only [e18] at hK |-)
        (try simp only [e19] at hK |-)
        (try simp only [e20] at hK |-)
        (try simp only [e21] at hK |-)
        (try simp only [e22] at hK |-)
        (try simp only [e23] at hK |-)
        (try simp only [e24] at hK |-)
        (try simp only [e25] at hK |-)
        (try simp only [e26] at hK |-)
        (try simp only [e27] at hK |-)
        have cb := HBX.out w1 hB;obtain ⟨q0, q1, q2, q3, q4, q5, q6⟩ := HX.out w1 (HB2.out.trans (hB.mono HB2.out.size));have r0 := HY.out w1 (HB2.out.trans (hB.mono HB2.out.size));refine gwpU_some rfl e7 ?_;go_simp;exact hK _ _ rfl bR
       ·intro w1 vals hB hd K hK;(try have e0 := tI (hd 0 rfl) rfl)
        (try have e1 := tI (hd 1 rfl) rfl)
        (try have e2 := tI (hd 2 rfl) rfl)
        (try have e3 := tI (hd 3 rfl) rfl)
        (try have e4 := tI (hd 4 rfl) rfl)
        (try have e5 : vals 5 = .bool true := (told_at (hd 5 rfl) rfl).1)
        (try have e6 := tI (hd 6 rfl) rfl)
        (try have e7 := tI (hd 7 rfl) rfl)
        (try have e8 := tI (hd 8 rfl) rfl)
        (try have e9 := tI (hd 9 rfl) rfl)
        (try have e10 := tI (hd 10 rfl) rfl)
        (try have e11 := tI (hd 11 rfl) rfl)
        (try have e12 := tI (hd 12 rfl) rfl)
        (try have e13 := tI (hd 13 rfl) rfl)
        (try have e14 := tI (hd 14 rfl) rfl)
        (try have e15 := tI (hd 15 rfl) rfl)
        (try have e16 := tI (hd 16 rfl) rfl)
        (try have e17 := tI (hd 17 rfl) rfl)
        (try have e18 := tI (hd 18 rfl) rfl)
        (try have e19 := tI (hd 19 rfl) rfl)
        (try have e20 := tI (hd 20 rfl) rfl)
        (try have e21 := tI (hd 21 rfl) rfl)
        (try have e22 := tI (hd 22 rfl) rfl)
        (try have e23 := tI (hd 23 rfl) rfl)
        (try have e24 := tI (hd 24 rfl) rfl)
        (try have e25 := tI (hd 25 rfl) rfl)
        (try have e26 := tI (hd 26 rfl) rfl)
        (try have e27 := tI (hd 27 rfl) rfl)
        (try have e28 := tI (hd 28 rfl) rfl)
        clear hd;simp only [putAll, Act.put, pS] at hK |-;(try simp only [e0] at hK |-)
        (try simp only [e1] at hK |-)
        (try simp only [e2] at hK |-)
        (try simp only [e3] at hK |-)
        (try simp only [e4] at hK |-)
        (try simp only [e5] at hK |-)
        (try simp only [e6] at hK |-)
        (try simp only [e7] at hK |-)
        (try simp only [e8] at hK |-)
        (try simp only [e9] at hK |-)
        (try simp only [e10] at hK |-)
        (try simp only [e11] at hK |-)
        (try simp only [e12] at hK |-)
        (try simp only [e13] at hK |-)
        (try simp only [e14] at hK |-)
        (try simp only [e15] at hK |-)
        (try simp only [e16] at hK |-)
        (try simp only [e17] at hK |-)
        (try simp only [e18] at hK |-)
        (try simp only [e19] at hK |-)
        (try simp only [e20] at hK |-)
        (try simp only [e21] at hK |-)
        (try simp only [e22] at hK |-)
        (try simp only [e23] at hK |-)
        (try simp only [e24] at hK |-)
        (try simp only [e25] at hK |-)
        (try simp only [e26] at hK |-)
        (try simp only [e27] at hK |-)
        (try simp only [e28] at hK |-)
        have cb := HBX.out w1 hB;obtain ⟨q0, q1, q2, q3, q4, q5, q6⟩ := HX.out w1 (HB2.out.trans (hB.mono HB2.out.size));have r0 := HY.out w1 (HB2.out.trans (hB.mono HB2.out.size));refine gwpU_none rfl ?_;go_simp;exact hK _ _ rfl bR
      | false =>
       repeat (refine And.intro ?_ ?_; rotate_left)
       exact trivial
       iterate 5
        ·intro w1 vals hB hd K hK;(try have e0 := tI (hd 0 rfl) rfl)
         (try have e1 := tI (hd 1 rfl) rfl)
         (try have e2 := tI (hd 2 rfl) rfl)
         (try have e3 := tI (hd 3 rfl) rfl)
         (try have e4 := tI (hd 4 rfl) rfl)
         clear hd;simp only [putAll, Act.put, pS] at hK |-;(try simp only [e0] at hK |-)
         (try simp only [e1] at hK |-)
         (try simp only [e2] at hK |-)
         (try simp only [e3] at hK |-)
         (try simp only [e4] at hK |-)
         have cb := HBX.out w1 hB;obtain ⟨q0, q1, q2, q3, q4, q5, q6⟩ := HX.out w1 (HB2.out.trans (hB.mono HB2.out.size));have r0 := HY.out w1 (HB2.out.trans (hB.mono HB2.out.size));refine gwpU_none rfl ?_;go_simp;exact hK _ _ rfl bR
       ·intro w1 vals hB hd K hK;(try have e0 := tI (hd 0 rfl) rfl)
        (try have e1 := tI (hd 1 rfl) rfl)
        (try have e2 := tI (hd 2 rfl) rfl)
        (try have e3 := tI (hd 3 rfl) rfl)
        (try have e4 := tI (hd 4 rfl) rfl)
        clear hd;simp only [putAll, Act.put, pS] at hK |-;(try simp only [e0] at hK |-)
        (try simp only [e1] at hK |-)
        (try simp only [e2] at hK |-)
        (try simp only [e3] at hK |-)
        (try simp only [e4] at hK |-)
        have cb := HBX.out w1 hB;obtain ⟨q0, q1, q2, q3, q4, q5, q6⟩ := HX.out w1 (HB2.out.trans (hB.mono HB2.out.size));have r0 := HY.out w1 (HB2.out.trans (hB.mono HB2.out.size));refine gwpU_none rfl ?_;go_simp;refine (HLT.out w1 hB).mono ?_;rintro e w4 ⟨bb, rfl, hlf, hb4⟩
        cases bb with
        | false => exact hK _ _ ⟨false, rfl⟩ hb4
        | true => exact hK _ _ ⟨true, rfl, hlf rfl⟩ hb4
       iterate 2
        ·intro w1 vals hB hd K hK;(try have e0 := tI (hd 0 rfl) rfl)
         (try have e1 := tI (hd 1 rfl) rfl)
         (try have e2 := tI (hd 2 rfl) rfl)
         (try have e3 := tI (hd 3 rfl) rfl)
         (try have e4 := tI (hd 4 rfl) rfl)
         (try have e5 := tI (hd 5 rfl) rfl)
         (try have e6 := tI (hd 6 rfl) rfl)
         (try have e7 := tI (hd 7 rfl) rfl)
         clear hd;simp only [putAll, Act.put, pS] at hK |-;(try simp only [e0] at hK |-)
         (try simp only [e1] at hK |-)
         (try simp only [e2] at hK |-)
         (try simp only [e3] at hK |-)
         (try simp only [e4] at hK |-)
         (try simp only [e5] at hK |-)
         (try simp only [e6] at hK |-)
         (try simp only [e7] at hK |-)
         have cb := HBX.out w1 hB;obtain ⟨q0, q1, q2, q3, q4, q5, q6⟩ := HX.out w1 (HB2.out.trans (hB.mono HB2.out.size));have r0 := HY.out w1 (HB2.out.trans (hB.mono HB2.out.size));refine gwpU_none rfl ?_;go_simp;exact hK _ _ rfl bR
       iterate 3
        ·intro w1 vals hB hd K hK;exact gwpU_skip rfl (told_at (hd 7 rfl) rfl) (hK _ _ rfl bR)
       iterate 16
        ·intro w1 vals hB hd K hK;exact gwpU_undef rfl (told_at (hd 10 rfl) rfl) (hK _ _ rfl bR)
       ·intro w1 vals hB hd K hK;exact gwpU_skip rfl (told_at (hd 7 rfl) rfl) (hK _ _ rfl bR)
       ·intro w1 vals hB hd K hK;(try have e0 := tI (hd 0 rfl) rfl)
        (try have e1 := tI (hd 1 rfl) rfl)
        (try have e2 := tI (hd 2 rfl) rfl)
        (try have e3 := tI (hd 3 rfl) rfl)
        (try have e4 := tI (hd 4 rfl) rfl)
        (try have e5 := tI (hd 5 rfl) rfl)
        (try have e6 := tI (hd 6 rfl) rfl)
        (try have e7 := tI (hd 7 rfl) rfl)
        (try have e28 := tI (hd 28 rfl) rfl)
        clear hd;simp only [putAll, Act.put, pS] at hK |-;(try simp only [e0] at hK |-)
        (try simp only [e1] at hK |-)
        (try simp only [e2] at hK |-)
        (try simp only [e3] at hK |-)
        (try simp only [e4] at hK |-)
        (try simp only [e5] at hK |-)
        (try simp only [e6] at hK |-)
        (try simp only [e7] at hK |-)
        (try simp only [e28] at hK |-)
        have cb := HBX.out w1 hB;obtain ⟨q0, q1, q2, q3, q4, q5, q6⟩ := HX.out w1 (HB2.out.trans (hB.mono HB2.out.size));have r0 := HY.out w1 (HB2.out.trans (hB.mono HB2.out.size));refine gwpU_none rfl ?_;go_simp;exact hK _ _ rfl bR
     ·intro b w1 vals hB hd;have HB3 : Hid (Below W0.heap.size W0 w1) := HB2'.out.trans (hB.mono HB2'.out.size)
      cases b with
      | false =>
       have e28 := tI (hd 28 (by decide)) rfl;clear hd hB;simp only [putAll, Act.put, pS];simp only [e28];clear e28;go_wp2;go_ret;exact ⟨false, rfl, fun h => (by cases h), HBW.out _ HB3.out⟩
      | true =>
       have e28 := tI (hd 28 (by decide)) rfl;have p5 : vals 5 = .bool true /\ ((x.d.nn <= 14 /\ x.d.tn <= 6) /\ DocOk x.T x.l) := told_at (hd 5 (by decide)) rfl;have HLD := hI p5.2;clear p5 hd hB;simp only [putAll, Act.put, pS];simp only [e28];clear e28
       cases le with
       | true =>
        go_wp2;go_ret;exact ⟨false, rfl, fun h => (by cases h), HBW.out _ HB3.out⟩
       | false =>
        have HN : Hid (DInv D (i + 1)) := HD.out.next HXD.out ⟨HLD.out.2, HLD.out.1.1, HLD.out.1.2⟩ fun j z hj hz => by
         have h1 := of_decide_eq_false HLE.out;have h2 := HKI.out;have h3 : j = k := by omega
         rw [h3, HYD.out] at hz
         cases hz;omega
        go_wp2;go_roundw
        case rel => exact ⟨i + 1, HLT1.out, H51.out, by go_num, HN, HB3⟩
        case measure => have := HLT1.out; simp [intOf]; omega
    ·have HI0 : Hid (i = 0) := by show i = 0; omega
     have d0 : decide (0 < i) = false := decide_eq_false h0;have d0z : decide ((0 : Int) < (i : Int)) = false := decide_eq_false (by omega);clear h0 hk;go_upto_region 4 with fail
     clear k0;refine wp_region_toldP 5 (fun b => match b with | true => [Told.is (.pointer (some ⟨w.heap.size, 0, none⟩)), Told.is (.slice (some ad) dn dc), Told.is (.int .i64 (i : Int)), Told.is (.pointer (some (ad.add (i * 7)))), Told.is (.agg #[.int .i64 x.d.rid, .string x.d.name, .int .i64 x.d.len, .int .i64 x.d.day, .slice x.d.sa x.d.sn x.d.sc, .slice x.d.ta x.d.tn x.d.tc, .slice x.d.na x.d.nn x.d.nc]), Told.such (fun v W => v = .bool true /\ ((x.d.nn <= 14 /\ x.d.tn <= 6) /\ DocOk x.T x.l)) (fun v W W' h hb => h), Told.is (.bool false), Told.is (.bool false), Told.is (.int .i64 (i : Int)), Told.is (.bool false), Told.is (.bool false), Told.is (undef), Told.is (undef), Told.is (undef), Told.is (undef), Told.is (undef), Told.is (undef), Told.is (undef), Told.is (undef), Told.is (undef), Told.is (undef), Told.is (undef), Told.is (undef), Told.is (undef), Told.is (undef), Told.is (undef), Told.is (undef), Told.is (.bool false), Told.is (.bool false)] | false => [Told.is (.pointer (some ⟨w.heap.size, 0, none⟩)), Told.is (.slice (some ad) dn dc), Told.is (.int .i64 (i : Int)), Told.is (.pointer (some (ad.add (i * 7)))), Told.is (.agg #[.int .i64 x.d.rid, .string x.d.name, .int .i64 x.d.len, .int .i64 x.d.day, .slice x.d.sa x.d.sn x.d.sc, .slice x.d.ta x.d.tn x.d.tc, .slice x.d.na x.d.nn x.d.nc]), Told.is (.bool false), Told.is (.bool true), Told.is (.bool true), Told.is (undef), Told.is (undef), Told.is (undef), Told.is (undef), Told.is (undef), Told.is (undef), Told.is (undef), Told.is (undef), Told.is (undef), Told.is (undef), Told.is (undef), Told.is (undef), Told.is (undef), Told.is (undef), Told.is (undef), Told.is (undef), Told.is (undef), Told.is (undef), Told.is (undef), Told.is (undef), Told.is (.bool true)]) (by kernel_rfl) (by kernel_rfl) (fun i hi => match i, hi with | 0, _ => rfl | 1, _ => rfl | 2, _ => rfl | 3, _ => rfl | 4, _ => rfl | n + 5, h => absurd h (by omega)) ?_ ?_
     ·intro b
      cases b with
      | true =>
       repeat (refine And.intro ?_ ?_; rotate_left)
       exact trivial
       iterate 5
        ·intro w1 vals hB hd K hK;(try have e0 := tI (hd 0 rfl) rfl)
         (try have e1 := tI (hd 1 rfl) rfl)
         (try have e2 := tI (hd 2 rfl) rfl)
         (try have e3 := tI (hd 3 rfl) rfl)
         (try have e4 := tI (hd 4 rfl) rfl)
         clear hd;simp only [putAll, Act.put, pS] at hK |-;(try simp only [e0] at hK |-)
         (try simp only [e1] at hK |-)
         (try simp only [e2] at hK |-)
         (try simp only [e3] at hK |-)
         (try simp only [e4] at hK |-)
         have cb := HBX.out w1 hB;obtain ⟨q0, q1, q2, q3, q4, q5, q6⟩ := HX.out w1 (HB2.out.trans (hB.mono HB2.out.size));have r0 := HY.out w1 (HB2.out.trans (hB.mono HB2.out.size));refine gwpU_none rfl ?_;go_simp;exact hK _ _ rfl bR
       ·intro w1 vals hB hd K hK;(try have e0 := tI (hd 0 rfl) rfl)
        (try have e1 := tI (hd 1 rfl) rfl)
        (try have e2 := tI (hd 2 rfl) rfl)
        (try have e3 := tI (hd 3 rfl) rfl)
        (try have e4 := tI (hd 4 rfl) rfl)
        clear hd;simp only [putAll, Act.put, pS] at hK |-;(try simp only [e0] at hK |-)
        (try simp only [e1] at hK |-)
        (try simp only [e2] at hK |-)
        (try simp only [e3] at hK |-)
        (try simp only [e4] at hK |-)
        have cb := HBX.out w1 hB;obtain ⟨q0, q1, q2, q3, q4, q5, q6⟩ := HX.out w1 (HB2.out.trans (hB.mono HB2.out.size));have r0 := HY.out w1 (HB2.out.trans (hB.mono HB2.out.size));refine gwpU_none rfl ?_;go_simp;refine (HLT.out w1 hB).mono ?_;rintro e w4 ⟨bb, rfl, hlf, hb4⟩
        cases bb with
        | false => exact hK _ _ ⟨false, rfl⟩ hb4
        | true => exact hK _ _ ⟨true, rfl, hlf rfl⟩ hb4
       iterate 2
        ·intro w1 vals hB hd K hK;(try have e0 := tI (hd 0 rfl) rfl)
         (try have e1 := tI (hd 1 rfl) rfl)
         (try have e2 := tI (hd 2 rfl) rfl)
         (try have e3 := tI (hd 3 rfl) rfl)
         (try have e4 := tI (hd 4 rfl) rfl)
         (try have e5 : vals 5 = .bool true := (told_at (hd 5 rfl) rfl).1)
         (try have e6 := tI (hd 6 rfl) rfl)
         (try have e7 := tI (hd 7 rfl) rfl)
         clear hd;simp only [putAll, Act.put, pS] at hK |-;(try simp only [e0] at hK |-)
         (try simp only [e1] at hK |-)
         (try simp only [e2] at hK |-)
         (try simp only [e3] at hK |-)
         (try simp only [e4] at hK |-)
         (try simp only [e5] at hK |-)
         (try simp only [e6] at hK |-)
         (try simp only [e7] at hK |-)
         have cb := HBX.out w1 hB;obtain ⟨q0, q1, q2, q3, q4, q5, q6⟩ := HX.out w1 (HB2.out.trans (hB.mono HB2.out.size));have r0 := HY.out w1 (HB2.out.trans (hB.mono HB2.out.size));refine gwpU_none rfl ?_;go_simp;exact hK _ _ rfl bR
       iterate 3
        ·intro w1 vals hB hd K hK;(try have e0 := tI (hd 0 rfl) rfl)
         (try have e1 := tI (hd 1 rfl) rfl)
         (try have e2 := tI (hd 2 rfl) rfl)
         (try have e3 := tI (hd 3 rfl) rfl)
         (try have e4 := tI (hd 4 rfl) rfl)
         (try have e5 : vals 5 = .bool true := (told_at (hd 5 rfl) rfl).1)
         (try have e6 := tI (hd 6 rfl) rfl)
         (try have e7 := tI (hd 7 rfl) rfl)
         (try have e8 := tI (hd 8 rfl) rfl)
         (try have e9 := tI (hd 9 rfl) rfl)
         (try have e10 := tI (hd 10 rfl) rfl)
         clear hd;simp only [putAll, Act.put, pS] at hK |-;(try simp only [e0] at hK |-)
         (try simp only [e1] at hK |-)
         (try simp only [e2] at hK |-)
         (try simp only [e3] at hK |-)
         (try simp only [e4] at hK |-)
         (try simp only [e5] at hK |-)
         (try simp only [e6] at hK |-)
         (try simp only [e7] at hK |-)
         (try simp only [e8] at hK |-)
         (try simp only [e9] at hK |-)
         (try simp only [e10] at hK |-)
         have cb := HBX.out w1 hB;obtain ⟨q0, q1, q2, q3, q4, q5, q6⟩ := HX.out w1 (HB2.out.trans (hB.mono HB2.out.size));have r0 := HY.out w1 (HB2.out.trans (hB.mono HB2.out.size));refine gwpU_some rfl e7 ?_;go_simp;exact hK _ _ rfl bR
       iterate 16
        ·intro w1 vals hB hd K hK;exact gwpU_skip rfl (told_at (hd 10 rfl) rfl) (hK _ _ rfl bR)
       ·intro w1 vals hB hd K hK;(try have e0 := tI (hd 0 rfl) rfl)
        (try have e1 := tI (hd 1 rfl) rfl)
        (try have e2 := tI (hd 2 rfl) rfl)
        (try have e3 := tI (hd 3 rfl) rfl)
        (try have e4 := tI (hd 4 rfl) rfl)
        (try have e5 : vals 5 = .bool true := (told_at (hd 5 rfl) rfl).1)
        (try have e6 := tI (hd 6 rfl) rfl)
        (try have e7 := tI (hd 7 rfl) rfl)
        (try have e8 := tI (hd 8 rfl) rfl)
        (try have e9 := tI (hd 9 rfl) rfl)
        (try have e10 := tI (hd 10 rfl) rfl)
        (try have e27 := tI (hd 27 rfl) rfl)
        clear hd;simp only [putAll, Act.put, pS] at hK |-;(try simp only [e0] at hK |-)
        (try simp only [e1] at hK |-)
        (try simp only [e2] at hK |-)
        (try simp only [e3] at hK |-)
        (try simp only [e4] at hK |-)
        (try simp only [e5] at hK |-)
        (try simp only [e6] at hK |-)
        (try simp only [e7] at hK |-)
        (try simp only [e8] at hK |-)
        (try simp only [e9] at hK |-)
        (try simp only [e10] at hK |-)
        (try simp only [e27] at hK |-)
        have cb := HBX.out w1 hB;obtain ⟨q0, q1, q2, q3, q4, q5, q6⟩ := HX.out w1 (HB2.out.trans (hB.mono HB2.out.size));have r0 := HY.out w1 (HB2.out.trans (hB.mono HB2.out.size));refine gwpU_some rfl e7 ?_;go_simp;exact hK _ _ rfl bR
       ·intro w1 vals hB hd K hK;(try have e0 := tI (hd 0 rfl) rfl)
        (try have e1 := tI (hd 1 rfl) rfl)
        (try have e2 := tI (hd 2 rfl) rfl)
        (try have e3 := tI (hd 3 rfl) rfl)
        (try have e4 := tI (hd 4 rfl) rfl)
        (try have e5 : vals 5 = .bool true := (told_at (hd 5 rfl) rfl).1)
        (try have e6 := tI (hd 6 rfl) rfl)
        (try have e7 := tI (hd 7 rfl) rfl)
        (try have e8 := tI (hd 8 rfl) rfl)
        (try have e9 := tI (hd 9 rfl) rfl)
        (try have e10 := tI (hd 10 rfl) rfl)
        (try have e27 := tI (hd 27 rfl) rfl)
        (try have e28 := tI (hd 28 rfl) rfl)
        clear hd;simp only [putAll, Act.put, pS] at hK |-;(try simp only [e0] at hK |-)
        (try simp only [e1] at hK |-)
        (try simp only [e2] at hK |-)
        (try simp only [e3] at hK |-)
        (try simp only [e4] at hK |-)
        (try simp only [e5] at hK |-)
        (try simp only [e6] at hK |-)
        (try simp only [e7] at hK |-)
        (try simp only [e8] at hK |-)
        (try simp only [e9] at hK |-)
        (try simp only [e10] at hK |-)
        (try simp only [e27] at hK |-)
        (try simp only [e28] at hK |-)
        have cb := HBX.out w1 hB;obtain ⟨q0, q1, q2, q3, q4, q5, q6⟩ := HX.out w1 (HB2.out.trans (hB.mono HB2.out.size));have r0 := HY.out w1 (HB2.out.trans (hB.mono HB2.out.size));refine gwpU_none rfl ?_;go_simp;exact hK _ _ rfl bR
      | false =>
       repeat (refine And.intro ?_ ?_; rotate_left)
       exact trivial
       iterate 5
        ·intro w1 vals hB hd K hK;(try have e0 := tI (hd 0 rfl) rfl)
         (try have e1 := tI (hd 1 rfl) rfl)
         (try have e2 := tI (hd 2 rfl) rfl)
         (try have e3 := tI (hd 3 rfl) rfl)
         (try have e4 := tI (hd 4 rfl) rfl)
         clear hd;simp only [putAll, Act.put, pS] at hK |-;(try simp only [e0] at hK |-)
         (try simp only [e1] at hK |-)
         (try simp only [e2] at hK |-)
         (try simp only [e3] at hK |-)
         (try simp only [e4] at hK |-)
         have cb := HBX.out w1 hB;obtain ⟨q0, q1, q2, q3, q4, q5, q6⟩ := HX.out w1 (HB2.out.trans (hB.mono HB2.out.size));have r0 := HY.out w1 (HB2.out.trans (hB.mono HB2.out.size));refine gwpU_none rfl ?_;go_simp;exact hK _ _ rfl bR
       ·intro w1 vals hB hd K hK;(try have e0 := tI (hd 0 rfl) rfl)
        (try have e1 := tI (hd 1 rfl) rfl)
        (try have e2 := tI (hd 2 rfl) rfl)
        (try have e3 := tI (hd 3 rfl) rfl)
        (try have e4 := tI (hd 4 rfl) rfl)
        clear hd;simp only [putAll, Act.put, pS] at hK |-;(try simp only [e0] at hK |-)
        (try simp only [e1] at hK |-)
        (try simp only [e2] at hK |-)
        (try simp only [e3] at hK |-)
        (try simp only [e4] at hK |-)
        have cb := HBX.out w1 hB;obtain ⟨q0, q1, q2, q3, q4, q5, q6⟩ := HX.out w1 (HB2.out.trans (hB.mono HB2.out.size));have r0 := HY.out w1 (HB2.out.trans (hB.mono HB2.out.size));refine gwpU_none rfl ?_;go_simp;refine (HLT.out w1 hB).mono ?_;rintro e w4 ⟨bb, rfl, hlf, hb4⟩
        cases bb with
        | false => exact hK _ _ ⟨false, rfl⟩ hb4
        | true => exact hK _ _ ⟨true, rfl, hlf rfl⟩ hb4
       iterate 2
        ·intro w1 vals hB hd K hK;(try have e0 := tI (hd 0 rfl) rfl)
         (try have e1 := tI (hd 1 rfl) rfl)
         (try have e2 := tI (hd 2 rfl) rfl)
         (try have e3 := tI (hd 3 rfl) rfl)
         (try have e4 := tI (hd 4 rfl) rfl)
         (try have e5 := tI (hd 5 rfl) rfl)
         (try have e6 := tI (hd 6 rfl) rfl)
         (try have e7 := tI (hd 7 rfl) rfl)
         clear hd;simp only [putAll, Act.put, pS] at hK |-;(try simp only [e0] at hK |-)
         (try simp only [e1] at hK |-)
         (try simp only [e2] at hK |-)
         (try simp only [e3] at hK |-)
         (try simp only [e4] at hK |-)
         (try simp only [e5] at hK |-)
         (try simp only [e6] at hK |-)
         (try simp only [e7] at hK |-)
         have cb := HBX.out w1 hB;obtain ⟨q0, q1, q2, q3, q4, q5, q6⟩ := HX.out w1 (HB2.out.trans (hB.mono HB2.out.size));have r0 := HY.out w1 (HB2.out.trans (hB.mono HB2.out.size));refine gwpU_none rfl ?_;go_simp;exact hK _ _ rfl bR
       iterate 3
        ·intro w1 vals hB hd K hK;exact gwpU_skip rfl (told_at (hd 7 rfl) rfl) (hK _ _ rfl bR)
       iterate 16
        ·intro w1 vals hB hd K hK;exact gwpU_undef rfl (told_at (hd 10 rfl) rfl) (hK _ _ rfl bR)
       ·intro w1 vals hB hd K hK;exact gwpU_skip rfl (told_at (hd 7 rfl) rfl) (hK _ _ rfl bR)
       ·intro w1 vals hB hd K hK;(try have e0 := tI (hd 0 rfl) rfl)
        (try have e1 := tI (hd 1 rfl) rfl)
        (try have e2 := tI (hd 2 rfl) rfl)
        (try have e3 := tI (hd 3 rfl) rfl)
        (try have e4 := tI (hd 4 rfl) rfl)
        (try have e5 := tI (hd 5 rfl) rfl)
        (try have e6 := tI (hd 6 rfl) rfl)
        (try have e7 := tI (hd 7 rfl) rfl)
        (try have e28 := tI (hd 28 rfl) rfl)
        clear hd;simp only [putAll, Act.put, pS] at hK |-;(try simp only [e0] at hK |-)
        (try simp only [e1] at hK |-)
        (try simp only [e2] at hK |-)
        (try simp only [e3] at hK |-)
        (try simp only [e4] at hK |-)
        (try simp only [e5] at hK |-)
        (try simp only [e6] at hK |-)
        (try simp only [e7] at hK |-)
        (try simp only [e28] at hK |-)
        have cb := HBX.out w1 hB;obtain ⟨q0, q1, q2, q3, q4, q5, q6⟩ := HX.out w1 (HB2.out.trans (hB.mono HB2.out.size));have r0 := HY.out w1 (HB2.out.trans (hB.mono HB2.out.size));refine gwpU_none rfl ?_;go_simp;exact hK _ _ rfl bR
     ·intro b w1 vals hB hd;have HB3 : Hid (Below W0.heap.size W0 w1) := HB2'.out.trans (hB.mono HB2'.out.size)
      cases b with
      | false =>
       have e28 := tI (hd 28 (by decide)) rfl;clear hd hB;simp only [putAll, Act.put, pS];simp only [e28];clear e28;go_wp2;go_ret;exact ⟨false, rfl, fun h => (by cases h), HBW.out _ HB3.out⟩
      | true =>
       have e28 := tI (hd 28 (by decide)) rfl;have p5 : vals 5 = .bool true /\ ((x.d.nn <= 14 /\ x.d.tn <= 6) /\ DocOk x.T x.l) := told_at (hd 5 (by decide)) rfl;have HLD := hI p5.2;clear p5 hd hB;simp only [putAll, Act.put, pS];simp only [e28];clear e28;have HN : Hid (DInv D (i + 1)) := HD.out.next HXD.out ⟨HLD.out.2, HLD.out.1.1, HLD.out.1.2⟩ fun j z hj hz => by have := HI0.out; omega
       go_wp2;go_roundw
       case rel => exact ⟨i + 1, HLT1.out, H51.out, by go_num, HN, HB3⟩
       case measure => have := HLT1.out; simp [intOf]; omega
   ·have h5z : ¬ (i : Int) < 5 := by omega
    have d4 : decide ((dn : Int) <= 4) = false := decide_eq_false (by omega);have d4' : decide (dn <= 4) = false := decide_eq_false (by omega);clear hlt h5;go_wp2;go_ret;exact ⟨false, rfl, fun h => (by cases h), HB2.out⟩
  ·have hiz : ¬ (i : Int) < (dn : Int) := by omega
   have HID : Hid (i = dn) := by show i = dn; omega
   by_cases h4 : dn <= 4
   ·have d4 : decide ((dn : Int) <= 4) = true := decide_eq_true (by omega);have d4' : decide (dn <= 4) = true := decide_eq_true h4;have H4 := hI h4;by_cases h40 : en <= 40
    ·have d5 : decide ((en : Int) <= 40) = true := decide_eq_true (by omega);have d5' : decide (en <= 40) = true := decide_eq_true h40;clear hlt h4 h40;go_wp2_with fail
     refine (HFW.out w2 HB2.out).mono ?_;intro e w3 hfp;obtain ⟨b, rfl, hlf, rfl⟩ := hfp;have HLF := hI hlf;clear hlf HFW
     cases b with
     | false =>
      go_wp2;go_ret;exact ⟨false, rfl, fun h => (by cases h), HB2.out⟩
     | true =>
      have HL2 := hI (HLF.out rfl);have HPP := hI (HPO.out HL2.out.2 w2 HB2.out);clear HPO HLF;go_wp2_with fail
      refine HPP.out.mono ?_;rintro e w4 ⟨r, rfl, hb4⟩;have HB4 : Hid (Below w.heap.size w w4) := HB2.out.trans (hb4.mono HB2.out.size);clear hb4 HPP k0 k1 k2;go_wp2;go_ret;refine ⟨_, rfl, fun _ => ⟨H4.out, fun y hy => ?_, fun j y z hy hz => ?_, HL2.out.1, HL2.out.2⟩, HB4.out⟩
      ·obtain ⟨j, hj⟩ := List.getElem?_of_mem hy;refine HD.out.ok j y ?_ hj;have h1 := (List.getElem?_eq_some_iff.1 hj).1;have h2 := HDS.out.len;have h3 := HID.out;simp only at h1;omega
      ·refine HD.out.inc j y z ?_ hy hz;have h1 := (List.getElem?_eq_some_iff.1 hz).1;have h2 := HDS.out.len;have h3 := HID.out;simp only at h1;omega
    ·have d5 : decide ((en : Int) <= 40) = false := decide_eq_false (by omega);have d5' : decide (en <= 40) = false := decide_eq_false h40;clear hlt h4 h40;go_wp2;go_ret;exact ⟨false, rfl, fun h => (by cases h), HB2.out⟩
   ·have d4 : decide ((dn : Int) <= 4) = false := decide_eq_false (by omega);have d4' : decide (dn <= 4) = false := decide_eq_false h4;clear hlt h4;go_wp2;go_ret;exact ⟨false, rfl, fun h => (by cases h), HB2.out⟩
def SsO (L : List ByteArray) (v : Value) (W : World) : Prop := ∃ A n c, v = .slice A n c /\ SR W W.heap.size A n L /\ n <= 9223372036854775807
theorem SsO.on {L : List ByteArray} {v : Value} {W W' : World} (h : SsO L v W) (hb : Below W.heap.size W W') : SsO L v W' := by
 obtain ⟨A, n, c, e, hr, hn⟩ := h;exact ⟨A, n, c, e, hr.on hb, hn⟩
theorem SsO.of {L : List ByteArray} {v : Value} {W : World} {b : Nat} (h : OwnS W b v L) : SsO L v W := by
 obtain ⟨A, c, e, h1, h2, h3⟩ := OwnS.form h;exact ⟨A, L.length, c, e, h3, by omega⟩
theorem strs_same (A B : Option Addr) (n m c d : Nat) (xs : List ByteArray) (w : World) (ha : SR w w.heap.size A n xs) (hb : SR w w.heap.size B m xs) (hn : n <= 9223372036854775807) (hm : m <= 9223372036854775807) :
  Calls Tryz.prog 21 #[.slice A n c, .slice B m d] w fun e w' => e = .returned (.bool true) /\ Below w.heap.size w w' :=
 (same_strs A B n m c d xs xs w ha hb hn hm).mono fun e w' ⟨h1, k, h2⟩ => ⟨by rw [h1, decide_eq_true rfl], by rw [h2]; exact below_drewN bR k⟩
set_option maxHeartbeats 4000000 in
set_option maxRecDepth 100000 in
theorem grammarLines_any (x : Bk) (WD : Int) (w : World) (h : BkR w x) (hWD : WD <= 9223372036854775807) (htb : Tabs w) (hpw : Pow w) :
  Calls Tryz.prog 6 #[bookV x, .int .i64 WD] w fun e w' => e = .returned (.bool true) /\ Below w.heap.size w w' := by
 have HAW := hI fun (W : World) (hW : Below w.heap.size w W) => awake55_any W (htb.on hW) (hpw.on hW)
 have HLT := hI fun (W : World) (hW : Below w.heap.size w W) => light55_any x W (h.on hW)
 have H1 := hI fun (hL : LightB x) (W : World) (hW : Below w.heap.size w W) => linesG_any x.da x.dn x.dc x.D x.pa x.pn x.pc x.L WD W (h.docs.on hW) (by have := hL.dn; omega) (h.pts.on hW) (by have := hL.pn; omega) hL.ok (hL.lim h) hWD (htb.on hW) (hpw.on hW)
 have H2 := hI fun (hL : LightB x) (W : World) (hW : Below w.heap.size w W) => refLines_any x.da x.dn x.dc x.D x.pa x.pn x.pc x.L WD W (h.docs.on hW) (by have := hL.dn; omega) (h.pts.on hW) (by have := hL.pn; omega) hL.ok (hL.lim h) hWD hL.inc
 clear h htb hpw;unfold bookV at HLT;unfold bookV;obtain ⟨da, dn, dc, D, ea, en, ec, E, pa, pn, pc, L⟩ := x;simp only at HLT H1 H2 |-;obtain ⟨W0, hW0⟩ : ∃ W0, w.alloc (.cells #[.slice da dn dc, .slice ea en ec, .slice pa pn pc] 51) = W0 := ⟨_, rfl⟩;have HB : Hid (Below w.heap.size w W0) := by rw [<- hW0]; exact (Below.refl _ w).alloc (Nat.le_refl _) _
 have hz0 : W0.heap.size = w.heap.size + 1 := by rw [<- hW0]; simp
 have HK : Hid (∀ W, Below W0.heap.size W0 W -> ∀ j v, [.slice da dn dc, .slice ea en ec, .slice pa pn pc][j]? = some v -> W.cell? ⟨w.heap.size, j, none⟩ = some v) := fun W hW j v hv => by
  rw [hW.cell (p := ⟨w.heap.size, j, none⟩) (by show w.heap.size < _; omega), <- hW0, World.cell?_alloc_new, <- hv, <- List.getElem?_toArray]
 have k0 : W0.cell? ⟨w.heap.size, 0, none⟩ = some (.slice da dn dc) := HK.out W0 bR 0 _ rfl;have k1 : W0.cell? ⟨w.heap.size, 1, none⟩ = some (.slice ea en ec) := HK.out W0 bR 1 _ rfl;have k2 : W0.cell? ⟨w.heap.size, 2, none⟩ = some (.slice pa pn pc) := HK.out W0 bR 2 _ rfl;go_enter Tryz.func6, Tryz.ntmps6
 go_upto_region 1 with fail
 (try rw [hW0])
 clear hW0;go_wp2_with fail
 refine (HLT.out W0 HB.out).mono ?_;rintro e w3 ⟨b, rfl, hlf, hb3⟩;have HLF := hI hlf;have HB3 := hI hb3;clear hb3 hlf k0 k1 k2 HLT;have HBW : Hid (∀ W, Below w3.heap.size w3 W -> Below w.heap.size w W) := fun W hW => (HB.out.trans (HB3.out.mono HB.out.size)).trans (hW.mono (Nat.le_trans HB.out.size HB3.out.size))
 cases b with
 | false =>
  go_wp2_with fail
  refine (HAW.out w3 (HB.out.trans (HB3.out.mono HB.out.size))).mono ?_;rintro e w5 ⟨rfl, hb5⟩;have HB5 := hI (HBW.out _ hb5);clear hb5;go_wp2;go_ret;exact ⟨rfl, HB5.out⟩
 | true =>
  have HL := hI (HLF.out rfl);have HP := hI fun (W : World) (hW : Below w3.heap.size w3 W) => H1.out HL.out W (HBW.out W hW)
  have HR := hI fun (W : World) (hW : Below w3.heap.size w3 W) => H2.out HL.out W (HBW.out W hW)
  have HA := hI fun (W : World) (hW : Below w3.heap.size w3 W) => HAW.out W (HBW.out W hW)
  have HK3 : Hid (∀ W, Below w3.heap.size w3 W -> ∀ j v, [.slice da dn dc, .slice ea en ec, .slice pa pn pc][j]? = some v -> W.cell? ⟨w.heap.size, j, none⟩ = some v) := fun W hW => HK.out W (HB3.out.trans (hW.mono HB3.out.size))
  (try simp only at HP HR)
  clear HL HLF H1 H2 HK HAW;go_upto_region 3 with fail
  refine wp_region_told [Told.is (.pointer (some ⟨w.heap.size, 0, none⟩)), Told.is (.slice da dn dc), Told.is (.pointer (some ⟨w.heap.size, 2, none⟩)), Told.is (.slice pa pn pc), Told.is (.int .i64 WD), Told.such (fun v W => SsO (linesG D L WD) v W) (fun v W W' h hb => h.on hb), Told.is (.pointer (some ⟨w.heap.size, 0, none⟩)), Told.is (.slice da dn dc), Told.is (.pointer (some ⟨w.heap.size, 2, none⟩)), Told.is (.slice pa pn pc), Told.is (.int .i64 WD), Told.such (fun v W => SsO (linesG D L WD) v W) (fun v W W' h hb => h.on hb), Told.is (.bool true), Told.is (.bool true), Told.is (.bool true), Told.is (.bool true), Told.is (.bool true)] (by kernel_rfl) (by kernel_rfl) ?_ ?_
  ·refine And.intro (fun w1 vals hB hd K hK => ?_) ?_
   ·clear hd;simp only [putAll, Act.put, pS] at hK |-;refine gwp_none rfl ?_;go_simp;exact hK _ _ rfl bR
   refine And.intro (fun w1 vals hB hd K hK => ?_) ?_
   ·have e0 := tI (hd 0 rfl) rfl;clear hd;simp only [putAll, Act.put, pS] at hK |-;simp only [e0] at hK |-;clear e0;refine gwp_none rfl ?_;have c0 := HK3.out w1 hB 0 _ rfl;go_simp;exact hK _ _ rfl bR
   refine And.intro (fun w1 vals hB hd K hK => ?_) ?_
   ·clear hd;simp only [putAll, Act.put, pS] at hK |-;refine gwp_none rfl ?_;go_simp;exact hK _ _ rfl bR
   refine And.intro (fun w1 vals hB hd K hK => ?_) ?_
   ·have e2 := tI (hd 2 rfl) rfl;clear hd;simp only [putAll, Act.put, pS] at hK |-;simp only [e2] at hK |-;clear e2;refine gwp_none rfl ?_;have c2 := HK3.out w1 hB 2 _ rfl;go_simp;exact hK _ _ rfl bR
   refine And.intro (fun w1 vals hB hd K hK => ?_) ?_
   ·clear hd;simp only [putAll, Act.put, pS] at hK |-;refine gwp_none rfl ?_;go_simp;exact hK _ _ rfl bR
   refine And.intro (fun w1 vals hB hd K hK => ?_) ?_
   ·have e1 := tI (hd 1 rfl) rfl;have e3 := tI (hd 3 rfl) rfl;have e4 := tI (hd 4 rfl) rfl;clear hd;simp only [putAll, Act.put, pS] at hK |-;simp only [e1, e3, e4] at hK |-;clear e1 e3 e4;refine gwp_none rfl ?_;go_simp;refine (HP.out w1 hB).mono ?_;rintro e w4 ⟨v, rfl, hO, hb4⟩;exact hK _ _ (SsO.of hO) hb4
   refine And.intro (fun w1 vals hB hd K hK => ?_) ?_
   ·clear hd;simp only [putAll, Act.put, pS] at hK |-;refine gwp_none rfl ?_;go_simp;exact hK _ _ rfl bR
   refine And.intro (fun w1 vals hB hd K hK => ?_) ?_
   ·have e6 := tI (hd 6 rfl) rfl;clear hd;simp only [putAll, Act.put, pS] at hK |-;simp only [e6] at hK |-;clear e6;refine gwp_none rfl ?_;have c0 := HK3.out w1 hB 0 _ rfl;go_simp;exact hK _ _ rfl bR
   refine And.intro (fun w1 vals hB hd K hK => ?_) ?_
   ·clear hd;simp only [putAll, Act.put, pS] at hK |-;refine gwp_none rfl ?_;go_simp;exact hK _ _ rfl bR
   refine And.intro (fun w1 vals hB hd K hK => ?_) ?_
   ·have e8 := tI (hd 8 rfl) rfl;clear hd;simp only [putAll, Act.put, pS] at hK |-;simp only [e8] at hK |-;clear e8;refine gwp_none rfl ?_;have c2 := HK3.out w1 hB 2 _ rfl;go_simp;exact hK _ _ rfl bR
   refine And.intro (fun w1 vals hB hd K hK => ?_) ?_
   ·clear hd;simp only [putAll, Act.put, pS] at hK |-;refine gwp_none rfl ?_;go_simp;exact hK _ _ rfl bR
   refine And.intro (fun w1 vals hB hd K hK => ?_) ?_
   ·have e7 := tI (hd 7 rfl) rfl;have e9 := tI (hd 9 rfl) rfl;have e10 := tI (hd 10 rfl) rfl;clear hd;simp only [putAll, Act.put, pS] at hK |-;simp only [e7, e9, e10] at hK |-;clear e7 e9 e10;refine gwp_none rfl ?_;go_simp;refine (HR.out w1 hB).mono ?_;rintro e w4 ⟨v, rfl, hO, hb4⟩;exact hK _ _ (SsO.of hO) hb4
   refine And.intro (fun w1 vals hB hd K hK => ?_) ?_
   ·have p5 := told_at (hd 5 rfl) rfl;simp only [Told.holds] at p5;have p11 := told_at (hd 11 rfl) rfl;simp only [Told.holds] at p11;clear hd;generalize hx5 : vals 5 = x5;rw [hx5] at p5;generalize hx11 : vals 11 = x11;rw [hx11] at p11;simp only [putAll, Act.put, pS] at hK |-;simp only [hx5, hx11] at hK |-;clear hx5 hx11;refine gwp_none rfl ?_;obtain ⟨A1, n1, c1, rfl, h1r, h1n⟩ := p5;obtain ⟨A2, n2, c2, rfl, h2r, h2n⟩ := p11;go_simp;refine (strs_same A1 A2 _ _ c1 c2 _ w1 h1r h2r h1n h2n).mono ?_;rintro e w4 ⟨rfl, hb4⟩;exact hK _ _ rfl hb4
   refine And.intro (fun w1 vals hB hd K hK => ?_) ?_
   ·have e12 := tI (hd 12 rfl) rfl;clear hd;simp only [putAll, Act.put, pS] at hK |-;simp only [e12] at hK |-;clear e12;refine gwp_none rfl ?_;go_simp;exact hK _ _ rfl bR
   refine And.intro (fun w1 vals hB hd K hK => ?_) ?_
   ·have g13 := tI (hd 13 rfl) rfl;clear hd;simp only [putAll, Act.put, pS] at hK |-;refine gwp_some rfl g13 ?_;clear g13;go_simp;refine (HA.out w1 hB).mono ?_;rintro e w4 ⟨rfl, hb4⟩;exact hK _ _ rfl hb4
   refine And.intro (fun w1 vals hB hd K hK => ?_) ?_
   ·have e13 := tI (hd 13 rfl) rfl;have e14 := tI (hd 14 rfl) rfl;clear hd;simp only [putAll, Act.put, pS] at hK |-;simp only [e13, e14] at hK |-;clear e13 e14;refine gwp_none rfl ?_;go_simp;exact hK _ _ rfl bR
   refine And.intro (fun w1 vals hB hd K hK => ?_) ?_
   ·have e15 := tI (hd 15 rfl) rfl;clear hd;simp only [putAll, Act.put, pS] at hK |-;simp only [e15] at hK |-;clear e15;refine gwp_none rfl ?_;go_simp;exact hK _ _ rfl bR
   exact trivial
  ·intro w1 vals hB hd;have e16 := tI (hd 16 (by decide)) rfl;clear hd;simp only [putAll, Act.put, pS];simp only [e16];clear e16;have HBE := hI (HBW.out w1 hB);clear hB;go_wp2;go_ret;exact ⟨rfl, HBE.out⟩
end
end Go.Proofs.YthcabnfcgjnlnaaGreatDoor
