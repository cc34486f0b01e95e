import Derived.Test.YthcabnfcgjnlnaaGreatDoorLi04
set_option linter.unusedVariables false
set_option linter.unusedSimpArgs false
namespace Go.Proofs.YthcabnfcgjnlnaaGreatDoor
section
open Go.RowKit Ru Lay
attribute [local go_sem ↓] Go.wp_at_zero Go.wp_at_succ
set_option maxHeartbeats 2000000 in
set_option maxRecDepth 100000 in
theorem minus_any (A A2 : Option Addr) (c m c2 : Nat) (a b : Int) (l : List (Int × Int)) (w : World) (ha : SpR w w.heap.size A 1 [(a, b)]) (hl : SpR w w.heap.size A2 m l) (hm : m <= 14) :
  Calls Tryz.prog 112 #[.slice A 1 c, .slice A2 m c2] w (SpPost 16384 w) := by
 have HL := hI hl;have HU := hI (union_one A c a b w ha);clear ha hl;go_enter Tryz.func112, Tryz.ntmps112
 go_wp2_with fail
 refine HU.out.mono ?_;rintro e w1 ⟨v, ys0, rfl, hy0, ho0, hb0⟩;have HO0 := hI ho0;have HB0 := hI hb0;have HY0 : Hid (ys0.length <= 2 ^ 0) := hy0;clear hy0 ho0 hb0 HU;go_wp2_with fail
 go_loopw [5, 6] (fun v5 v6 wr => ∃ (i : Nat) (ys : List (Int × Int)), i <= m /\ v6 = .int .i64 i /\ Hid (ys.length <= 2 ^ i) /\ Hid (SpO wr w.heap.size v5 ys) /\ Hid (Below w.heap.size w wr)) (fun _ v6 _ => m - (intOf v6).toNat)
 case atStart => exact ⟨0, ys0, Nat.zero_le _, rfl, HY0, HO0, HB0⟩
 case round =>
  clear HO0 HB0 HY0;obtain ⟨i, ys, hi, rfl, HYS, HO, HB1⟩ := hrel;obtain ⟨w0, hw0⟩ : ∃ w0, wr = w0 := ⟨_, rfl⟩;rw [hw0] at HO HB1 |-;clear hw0;have HP : Hid (2 ^ i <= 16384) := Nat.le_trans (Nat.pow_le_pow_right (by omega) (show i <= 14 by omega)) (by decide);by_cases hlt : i < m
  ·have hiz : (i : Int) < (m : Int) := by omega
   have hiA : (0 : Int) <= (i : Int) := by omega
   have HI := hI hlt;obtain ⟨ad, x, rfl, hab, hx, hcells⟩ := HL.out.at_ hlt;obtain ⟨q0, q1⟩ := hcells w0 HB1.out;obtain ⟨A3, c3, rfl, _, _, _⟩ := HO.out.form;have HRS := hI (right09_any x.1 x.2 w0);obtain ⟨rb, hrb⟩ : ∃ rb, rightS x.1 x.2 = rb := ⟨_, rfl⟩;rw [hrb] at HRS;have HN : Hid (2 * ys.length <= 2 ^ (i + 1)) := by show _ <= _; rw [Nat.pow_succ]; have := HYS.out; omega
   have HN0 : Hid (ys.length <= 2 ^ (i + 1)) := by show _ <= _; have := HN.out; omega
   clear hrb hx
   cases rb with
   | true =>
    go_wp2_with fail
    refine HRS.out.mono ?_;rintro e w2 ⟨rfl, hb2⟩;have HB2 : Hid (Below w.heap.size w w2) := HB1.out.trans (hb2.mono HB1.out.size);have HO2 := hI (HO.out.on hb2);clear hb2 q0 q1;obtain ⟨q0, q1⟩ := hcells w2 HB2.out;obtain ⟨A4, c4, hv4, _, _, hr4⟩ := HO2.out.form
    cases hv4;have HW := hI (without_any A3 ys.length c3 ys x.1 x.2 w2 hr4 (by have := HYS.out; have := HP.out; omega));clear hr4 hcells HO;go_wp2_with fail
    refine HW.out.mono ?_;rintro e w3 ⟨v, zs, rfl, hz, ho, hb⟩;have HO3 : Hid (SpO w3 w.heap.size v zs) := own_base ho HB2.out.size;have HB3 : Hid (Below w.heap.size w w3) := HB2.out.trans (hb.mono HB2.out.size);have HZ : Hid (zs.length <= 2 ^ (i + 1)) := Nat.le_trans hz HN.out;clear ho hb hz q0 q1;go_wp2;go_roundw
    case rel => exact ⟨i + 1, zs, HI.out, by go_num, HZ, HO3, HB3⟩
    case measure => have := HI.out; simp [intOf]; omega
   | false =>
    go_wp2_with fail
    refine HRS.out.mono ?_;rintro e w2 ⟨rfl, hb2⟩;have HB2 : Hid (Below w.heap.size w w2) := HB1.out.trans (hb2.mono HB1.out.size);have HO2 := hI (HO.out.on hb2);clear hb2 q0 q1 hcells;go_wp2;go_roundw
    case rel => exact ⟨i + 1, ys, HI.out, by go_num, HN0, HO2, HB2⟩
    case measure => have := HI.out; simp [intOf]; omega
  ·obtain rfl : m = i := by omega
   have hiz : ¬ (m : Int) < (m : Int) := by omega
   have HZ : Hid (ys.length <= 16384) := Nat.le_trans HYS.out HP.out;go_wp2;go_ret;exact SpPost.of HZ.out HO.out HB1.out
set_option maxHeartbeats 2000000 in
set_option maxRecDepth 100000 in
theorem covers_any (A : Option Addr) (n c : Nat) (l : List (Int × Int)) (a b : Int) (w : World) (hl : SpR w w.heap.size A n l) (hn : n <= 14) :
  Calls Tryz.prog 86 #[.slice A n c, .agg #[.int .i64 a, .int .i64 b]] w (BoolIf (fun _ => True) w) := by
 have HL := hI fun (W : World) (hW : Below w.heap.size w W) => hl.on hW
 obtain ⟨W0, hW0⟩ : ∃ W0, w.alloc (.cells #[.int .i64 a, .int .i64 b] 56) = W0 := ⟨_, rfl⟩;have HB0 : Hid (Below w.heap.size w W0) := by rw [<- hW0]; exact (Below.refl _ w).alloc (Nat.le_refl _) _
 have hz : W0.heap.size = w.heap.size + 1 := by rw [<- hW0]; simp
 have HK : Hid (∀ X, Below W0.heap.size W0 X -> X.cell? ⟨w.heap.size, 0, none⟩ = some (.int .i64 a) /\ X.cell? ⟨w.heap.size, 1, none⟩ = some (.int .i64 b)) := fun X hX => by
  refine ⟨?_, ?_⟩
  ·rw [hX.cell (by show w.heap.size < _; omega), <- hW0, World.cell?_alloc_new]; rfl
  ·rw [hX.cell (by show w.heap.size < _; omega), <- hW0, World.cell?_alloc_new]; rfl
 have HRS := hI (right09_any a b W0);obtain ⟨rb, hrb⟩ : ∃ rb, rightS a b = rb := ⟨_, rfl⟩;rw [hrb] at HRS;clear hl hrb;go_enter Tryz.func86, Tryz.ntmps86
 go_upto_region 1 with fail
 (try rw [hW0])
 clear hW0;obtain ⟨k0, k1⟩ := HK.out W0 bR
 cases rb with
 | false =>
  go_wp2_with fail
  refine HRS.out.mono ?_;rintro e w2 ⟨rfl, hb2⟩;have HB2 : Hid (Below w.heap.size w w2) := HB0.out.trans (hb2.mono HB0.out.size);clear hb2 k0 k1;go_wp2;go_ret;exact BoolIf.of false trivial HB2.out
 | true =>
  go_wp2_with fail
  refine HRS.out.mono ?_;rintro e w2 ⟨rfl, hb2⟩;have HB2 : Hid (Below w.heap.size w w2) := HB0.out.trans (hb2.mono HB0.out.size);have HB02 : Hid (Below W0.heap.size W0 w2) := hb2;clear hb2 k0 k1;obtain ⟨k0, k1⟩ := HK.out w2 HB02.out;obtain ⟨w3, hw3⟩ : ∃ w3, w2.alloc (.cells #[.int .i64 a, .int .i64 b] 56) = w3 := ⟨_, rfl⟩;have HB23 : Hid (Below w2.heap.size w2 w3) := by rw [<- hw3]; exact (Below.refl _ w2).alloc (Nat.le_refl _) _
  have HB3 : Hid (Below w.heap.size w w3) := HB2.out.trans (HB23.out.mono HB2.out.size)
  have HA : Hid (SpR w3 w3.heap.size (some ⟨w2.heap.size, 0, none⟩) 1 [(a, b)]) := by
   refine ⟨⟨rfl, fun _ => ⟨_, rfl, by rw [<- hw3]; simp, fun j u hu => ?_⟩⟩, rfl⟩;rw [<- hw3, Addr.add_mid, Nat.zero_add, World.cell?_alloc_new, <- hu, <- List.getElem?_toArray];rfl
  have HM := hI (minus_any (some ⟨w2.heap.size, 0, none⟩) A 1 n c a b l w3 HA.out (HL.out w3 HB3.out) hn);go_wp2_with fail
  (try rw [hw3])
  clear hw3;refine HM.out.mono ?_;rintro e w4 ⟨v, zs, rfl, hzs, ho, hb⟩;obtain ⟨A5, c5, rfl, _, _, _⟩ := SpO.form ho;have HB4 : Hid (Below w.heap.size w w4) := HB3.out.trans (hb.mono HB3.out.size);clear ho hb k0 k1 HM;by_cases h0 : zs.length = 0
  ·have h1 : ((zs.length : Int) == 0) = true := by rw [beq_iff_eq]; omega
   go_wp2;go_ret;exact BoolIf.of _ trivial HB4.out
  ·have h1 : ((zs.length : Int) == 0) = false := by rw [beq_eq_false_iff_ne]; omega
   go_wp2;go_ret;exact BoolIf.of _ trivial HB4.out
set_option maxHeartbeats 4000000 in
set_option maxRecDepth 100000 in
theorem noteError_any (d : Dv) (T : List Ti) (l : List Nt) (i : Nat) (w : World) (hT : TiersR w w.heap.size d.ta d.tn T) (hl : NotesR w w.heap.size d.na d.nn l) (hn : d.nn <= 9223372036854775807) (ht : d.tn <= 9223372036854775807) (hi : i < d.nn) :
  Calls Tryz.prog 55 #[docV d, .int .i64 i] w fun e w' => ∃ r : Int, e = .returned (.int .i64 r) /\ (r = 0 -> NOk T l i) /\ Below w.heap.size w w' := by
 have HTL := hI hT.len;have HPL := hI fun (x : Nt) (W : World) (hW : Below w.heap.size w W) (hx : 0 <= x.tier /\ x.tier < (d.tn : Int)) => placed_any d T l x W (hT.on hW) (hl.on hW) hn hx
 obtain ⟨ad, x, hna, hab, hx, hcells⟩ := hl.at_ hi
 have HPREV : Hid (0 < i -> ∃ y, l[i - 1]? = some y /\ ∀ W, Below w.heap.size w W -> W.cell? (ad.add ((i - 1) * 7)) = some (.int .i64 y.nid)) := fun h0 => by
  obtain ⟨ad', y, hna', _, hy, hc⟩ := hl.at_ (k := i - 1) (by omega);rw [hna] at hna'
  cases hna'
  exact ⟨y, hy, fun W hW => (hc W hW).1⟩
 have HX := hI hx;have HCE := hI hcells;have HTX := hI fun W => text12_any x.text W
 unfold docV at HPL;unfold docV;obtain ⟨rid, name, len, day, sa, sn, sc, ta, tn, tc, na, nn, nc⟩ := d;simp only at *;subst hna;clear hT hl hx hcells;have hiz : (i : Int) < (nn : Int) := by omega
 have hiA : (0 : Int) <= (i : Int) := by omega
 have hin : i < nn := hi;go_enter Tryz.func55, Tryz.ntmps55
 go_upto_region 1 with fail
 obtain ⟨W1, hW1⟩ : ∃ W1, (w.alloc (.cells #[.int .i64 rid, .string name, .int .i64 len, .int .i64 day, .slice sa sn sc, .slice ta tn tc, .slice (some ad) nn nc] 38)) = W1 := ⟨_, rfl⟩;have HB1 : Hid (Below w.heap.size w W1) := by rw [<- hW1]; exact (bR.alloc (by simp <;> omega) _)
 have hz1 : W1.heap.size = w.heap.size + 1 := by rw [<- hW1]; simp
 have HC1 : Hid (∀ X, Below W1.heap.size W1 X -> X.rangeAt (w.heap.size) 0 [.int .i64 rid, .string name, .int .i64 len, .int .i64 day, .slice sa sn sc, .slice ta tn tc, .slice (some ad) nn nc]) := fun X hX => by
  refine range_below hX (by omega) fun j v hv => ?_
  rw [<- hW1, Nat.zero_add]; rw [World.cell?_alloc_at _ _ _ _ (by simp), <- hv, <- List.getElem?_toArray]; try rfl
 (try rw [hW1])
 clear hW1;obtain ⟨q0, q1, q2, q3, q4, q5, q6⟩ := HCE.out W1 HB1.out;have g0 := HC1.out W1 bR;have k5 : W1.cell? ⟨w.heap.size, 5, none⟩ = some (.slice ta tn tc) := g0 5 _ rfl;have k6 : W1.cell? ⟨w.heap.size, 6, none⟩ = some (.slice (some ad) nn nc) := g0 6 _ rfl;clear g0;go_upto_region 2 with fail
 obtain ⟨W2, hW20⟩ : ∃ W2, (W1.alloc (.cells #[.int .i64 x.nid, .int .i64 x.tier, .int .i64 x.parent, .int .i64 x.at1, .int .i64 x.at2, .int .i64 x.rank, .string x.text] 58)) = W2 := ⟨_, rfl⟩;have HB20 : Hid (Below W1.heap.size W1 W2) := by rw [<- hW20]; exact (bR.alloc (by simp <;> omega) _)
 have hz20 : W2.heap.size = W1.heap.size + 1 := by rw [<- hW20]; simp
 have HC20 : Hid (∀ X, Below W2.heap.size W2 X -> X.rangeAt (W1.heap.size) 0 [.int .i64 x.nid, .int .i64 x.tier, .int .i64 x.parent, .int .i64 x.at1, .int .i64 x.at2, .int .i64 x.rank, .string x.text]) := fun X hX => by
  refine range_below hX (by omega) fun j v hv => ?_
  rw [<- hW20, Nat.zero_add]; rw [World.cell?_alloc_at _ _ _ _ (by simp), <- hv, <- List.getElem?_toArray]; try rfl
 (try rw [hW20])
 clear hW20;have HB2 : Hid (Below w.heap.size w W2) := HB1.out.trans (HB20.out.mono HB1.out.size)
 have HC2 : Hid (∀ X, Below W2.heap.size W2 X -> X.rangeAt w.heap.size 0 [.int .i64 rid, .string name, .int .i64 len, .int .i64 day, .slice sa sn sc, .slice ta tn tc, .slice (some ad) nn nc] /\ X.rangeAt (w.heap.size + 1) 0 [.int .i64 x.nid, .int .i64 x.tier, .int .i64 x.parent, .int .i64 x.at1, .int .i64 x.at2, .int .i64 x.rank, .string x.text]) := fun X hX => by
  exact ⟨HC1.out X (HB20.out.trans (hX.mono HB20.out.size)), by rw [<- hz1]; exact HC20.out X hX⟩
 clear q0 q1 q2 q3 q4 q5 q6 k5 k6;obtain ⟨g0, g1⟩ := HC2.out W2 bR;have k5 : W2.cell? ⟨w.heap.size, 5, none⟩ = some (.slice ta tn tc) := g0 5 _ rfl;have k6 : W2.cell? ⟨w.heap.size, 6, none⟩ = some (.slice (some ad) nn nc) := g0 6 _ rfl;have m0 : W2.cell? ⟨w.heap.size + 1, 0, none⟩ = some (.int .i64 x.nid) := g1 0 _ rfl;have m1 : W2.cell? ⟨w.heap.size + 1, 1, none⟩ = some (.int .i64 x.tier) := g1 1 _ rfl;clear g0 g1;by_cases a0 : x.nid < 1
 ·have a1 : decide (x.nid < 1) = true := decide_eq_true a0;go_wp2;go_ret;exact ⟨2, rfl, fun h => absurd h (by decide), HB2.out⟩
 ·have a1 : decide (x.nid < 1) = false := decide_eq_false a0;by_cases a2 : 1099511627776 < x.nid
  ·have a3 : decide (x.nid > 1099511627776) = true := decide_eq_true a2;have a3' : decide (1099511627776 < x.nid) = true := decide_eq_true a2;go_wp2;go_ret;exact ⟨2, rfl, fun h => absurd h (by decide), HB2.out⟩
  ·have a3 : decide (x.nid > 1099511627776) = false := decide_eq_false a2;have a3' : decide (1099511627776 < x.nid) = false := decide_eq_false a2;have HA : Hid (1 <= x.nid) := by show _ <= _; omega
   clear a0 a2;by_cases i0 : 0 < i
   ·obtain ⟨y, hy, hyc⟩ := HPREV.out i0;have HY := hI hy;have r0 := hyc W2 HB2.out;have HI0 := hI i0;have i0z : decide ((i : Int) > 0) = true := decide_eq_true (by omega);have i0z' : decide ((0 : Int) < (i : Int)) = true := decide_eq_true (by omega);obtain ⟨p, hp⟩ : ∃ p, i - 1 = p := ⟨_, rfl⟩;rw [hp] at r0;have HPI := hI hp;have hip : i = p + 1 := by omega
    have zp : (i : Int) - 1 = (p : Int) := by omega
    have zp1 : IntKind.i64.wrap ((i : Int) - 1) = (p : Int) := by rw [IntKind.wrap_i64]; omega
    have zp2 : IntKind.i64.wrap (p : Int) = (p : Int) := by rw [IntKind.wrap_i64]; omega
    have zpn : (p : Int) < (nn : Int) := by omega
    have zpA : (0 : Int) <= (p : Int) := by omega
    have hpi : p = i - 1 := by omega
    clear hy hyc hp hip hpi;by_cases b0 : x.nid <= y.nid
    ·have b1 : decide (x.nid <= y.nid) = true := decide_eq_true b0;go_wp2_with fail
     go_quiet (fail)
     have HB3 : Hid (Below w.heap.size w (W2.drewN nq)) := below_drewN HB2.out nq;go_wp2;go_ret;exact ⟨10, rfl, fun h => absurd h (by decide), HB3.out⟩
    ·have b1 : decide (x.nid <= y.nid) = false := decide_eq_false b0
     have HPV : Hid (∀ y, 0 < i -> l[i - 1]? = some y -> y.nid < x.nid) := fun z _ hz => by
      rw [HY.out] at hz
      cases hz;omega
     go_wp2_with fail
     go_quiet (fail)
     clear r0 b0 zp zp1 zp2 zpn zpA i0z i0z' i0 b1;have HB3 : Hid (Below w.heap.size w (W2.drewN nq)) := below_drewN HB2.out nq;have HB23 : Hid (Below W2.heap.size W2 (W2.drewN nq)) := below_drewN bR nq;obtain ⟨W3, hW3⟩ : ∃ W3, W2.drewN nq = W3 := ⟨_, rfl⟩;rw [hW3] at HB3 HB23 |-;clear hW3 k5 k6 m0 m1;obtain ⟨g0, g1⟩ := HC2.out W3 HB23.out;have k5 : W3.cell? ⟨w.heap.size, 5, none⟩ = some (.slice ta tn tc) := g0 5 _ rfl;have k6 : W3.cell? ⟨w.heap.size, 6, none⟩ = some (.slice (some ad) nn nc) := g0 6 _ rfl;have m1 : W3.cell? ⟨w.heap.size + 1, 1, none⟩ = some (.int .i64 x.tier) := g1 1 _ rfl;have m6 : W3.cell? ⟨w.heap.size + 1, 6, none⟩ = some (.string x.text) := g1 6 _ rfl;clear g0 g1;by_cases c0 : x.tier < 0
     ·have c1 : decide (x.tier < 0) = true := decide_eq_true c0;go_wp2;go_ret;exact ⟨2, rfl, fun h => absurd h (by decide), HB3.out⟩
     ·have c1 : decide (x.tier < 0) = false := decide_eq_false c0;by_cases c2 : (tn : Int) <= x.tier
      ·have c3 : decide (x.tier ≥ (tn : Int)) = true := decide_eq_true c2;have c3' : decide ((tn : Int) <= x.tier) = true := decide_eq_true c2;go_wp2;go_ret;exact ⟨2, rfl, fun h => absurd h (by decide), HB3.out⟩
      ·have c3 : decide (x.tier ≥ (tn : Int)) = false := decide_eq_false c2;have c3' : decide ((tn : Int) <= x.tier) = false := decide_eq_false c2;have HTR : Hid (0 <= x.tier /\ x.tier < (tn : Int)) := by show _ /\ _; omega
       clear c0 c2;go_wp2_with fail
       refine (HTX.out W3).mono ?_;rintro e w4 ⟨r, rfl, hsz, hb4⟩;have HSZ := hI hsz;clear hsz;have HB4 : Hid (Below w.heap.size w w4) := HB3.out.trans (hb4.mono HB3.out.size);have HB24 : Hid (Below W2.heap.size W2 w4) := HB23.out.trans (hb4.mono HB23.out.size);clear hb4 k5 k6 m1 m6 c1 c3 c3';by_cases r0 : r = 0
       ·subst r0;obtain ⟨g0, g1⟩ := HC2.out w4 HB24.out;obtain ⟨k0, k1, k2, k3, k4, k5, k6⟩ := range7 g0;obtain ⟨m0, m1, m2, m3, m4, m5, m6⟩ := range7 g1;clear g0 g1;have HP := hI (HPL.out x w4 HB4.out HTR.out);unfold noteV at HP;go_wp2_with fail
        refine HP.out.mono ?_;rintro e w5 ⟨r, rfl, hr, hb5⟩;have HR := hI hr;have HB5 : Hid (Below w.heap.size w w5) := HB4.out.trans (hb5.mono HB4.out.size);clear hb5 hr
        have HF : Hid (r = 0 -> NOk T l i) := fun h z hz => by
         rw [HX.out] at hz
         cases hz;exact ⟨HA.out, HPV.out, by rw [HTL.out]; exact HTR.out, HR.out h, (by first | exact HSZ.out rfl | exact HSZ.out trivial | exact HSZ.out)⟩
        go_wp2;go_ret;exact ⟨r, rfl, HF.out, HB5.out⟩
       ·have rb : (r != 0) = true := bne_iff_ne.2 r0;have HR0 := hI r0;clear r0;go_wp2;go_ret;exact ⟨r, rfl, fun h => absurd h HR0.out, HB4.out⟩
   ·have i0z : decide ((i : Int) > 0) = false := decide_eq_false (by omega);have i0z' : decide ((0 : Int) < (i : Int)) = false := decide_eq_false (by omega);have i0n : decide (0 < i) = false := decide_eq_false i0;have HPV : Hid (∀ y, 0 < i -> l[i - 1]? = some y -> y.nid < x.nid) := fun z h _ => absurd h i0
    have i00 := hI i0;clear i0;go_wp2_with fail
    go_quiet (fail)
    clear i0z i0z' i0n;have HB3 : Hid (Below w.heap.size w (W2.drewN nq)) := below_drewN HB2.out nq;have HB23 : Hid (Below W2.heap.size W2 (W2.drewN nq)) := below_drewN bR nq;obtain ⟨W3, hW3⟩ : ∃ W3, W2.drewN nq = W3 := ⟨_, rfl⟩;rw [hW3] at HB3 HB23 |-;clear hW3 k5 k6 m0 m1;obtain ⟨g0, g1⟩ := HC2.out W3 HB23.out;have k5 : W3.cell? ⟨w.heap.size, 5, none⟩ = some (.slice ta tn tc) := g0 5 _ rfl;have k6 : W3.cell? ⟨w.heap.size, 6, none⟩ = some (.slice (some ad) nn nc) := g0 6 _ rfl;have m1 : W3.cell? ⟨w.heap.size + 1, 1, none⟩ = some (.int .i64 x.tier) := g1 1 _ rfl;have m6 : W3.cell? ⟨w.heap.size + 1, 6, none⟩ = some (.string x.text) := g1 6 _ rfl;clear g0 g1;by_cases c0 : x.tier < 0
    ·have c1 : decide (x.tier < 0) = true := decide_eq_true c0;go_wp2;go_ret;exact ⟨2, rfl, fun h => absurd h (by decide), HB3.out⟩
    ·have c1 : decide (x.tier < 0) = false := decide_eq_false c0;by_cases c2 : (tn : Int) <= x.tier
     ·have c3 : decide (x.tier ≥ (tn : Int)) = true := decide_eq_true c2;have c3' : decide ((tn : Int) <= x.tier) = true := decide_eq_true c2;go_wp2;go_ret;exact ⟨2, rfl, fun h => absurd h (by decide), HB3.out⟩
     ·have c3 : decide (x.tier ≥ (tn : Int)) = false := decide_eq_false c2;have c3' : decide ((tn : Int) <= x.tier) = false := decide_eq_false c2;have HTR : Hid (0 <= x.tier /\ x.tier < (tn : Int)) := by show _ /\ _; omega
      clear c0 c2;go_wp2_with fail
      refine (HTX.out W3).mono ?_;rintro e w4 ⟨r, rfl, hsz, hb4⟩;have HSZ := hI hsz;clear hsz;have HB4 : Hid (Below w.heap.size w w4) := HB3.out.trans (hb4.mono HB3.out.size);have HB24 : Hid (Below W2.heap.size W2 w4) := HB23.out.trans (hb4.mono HB23.out.size);clear hb4 k5 k6 m1 m6 c1 c3 c3';by_cases r0 : r = 0
      ·subst r0;obtain ⟨g0, g1⟩ := HC2.out w4 HB24.out;obtain ⟨k0, k1, k2, k3, k4, k5, k6⟩ := range7 g0;obtain ⟨m0, m1, m2, m3, m4, m5, m6⟩ := range7 g1;clear g0 g1;have HP := hI (HPL.out x w4 HB4.out HTR.out);unfold noteV at HP;go_wp2_with fail
       refine HP.out.mono ?_;rintro e w5 ⟨r, rfl, hr, hb5⟩;have HR := hI hr;have HB5 : Hid (Below w.heap.size w w5) := HB4.out.trans (hb5.mono HB4.out.size);clear hb5 hr
       have HF : Hid (r = 0 -> NOk T l i) := fun h z hz => by
        rw [HX.out] at hz
        cases hz;exact ⟨HA.out, HPV.out, by rw [HTL.out]; exact HTR.out, HR.out h, (by first | exact HSZ.out rfl | exact HSZ.out trivial | exact HSZ.out)⟩
       go_wp2;go_ret;exact ⟨r, rfl, HF.out, HB5.out⟩
      ·have rb : (r != 0) = true := bne_iff_ne.2 r0;have HR0 := hI r0;clear r0;go_wp2;go_ret;exact ⟨r, rfl, fun h => absurd h HR0.out, HB4.out⟩
theorem wp_hideQ {c : Code} {P : Program} {Q : Exit -> Act -> World -> Prop} {a : Act} {w : World} (h : ∀ QQ : Exit -> Act -> World -> Prop, QQ = Q -> c.wp P QQ a w) : c.wp P Q a w := h Q rfl
set_option maxHeartbeats 8000000 in
set_option maxRecDepth 100000 in
theorem tierError_any (d : Dv) (T : List Ti) (l : List Nt) (t : Nat) (w : World) (hT : TiersR w w.heap.size d.ta d.tn T) (hl : NotesR w w.heap.size d.na d.nn l) (hn : d.nn <= 14) (ht : t < d.tn) :
  Calls Tryz.prog 56 #[docV d, .int .i64 t] w (IntIf (fun r => r = 0 -> TierOk T l (t : Int)) w) := by
 have HL := hI hl;have HLN := hI hl.len;obtain ⟨ad, ti, hta, hab, htj, _, hcells⟩ := hT.at_ ht;have htt : tierT T (t : Int) = ti := by unfold tierT; rw [Int.toNat_natCast, List.getD, htj]; rfl
 have HTOK : Hid (TierOk T l (t : Int) = ∀ x ∈ l, x.tier = (t : Int) -> SibOk ti.kind (sibF l (t : Int) x.parent)) := by show _ = _; unfold TierOk; rw [htt]
 rw [HTOK.out];have HSB := hI fun (p : Int) (W : World) (hW : Below w.heap.size w W) => siblings_any d l (t : Int) p W (hl.on hW) (by omega)
 have HGT := hI fun (p : Int) (W : World) (hW : Below w.heap.size w W) => refGet_any d l p W (hl.on hW) (by omega)
 unfold docV at HSB HGT;unfold docV;obtain ⟨rid, name, len, day, sa, sn, sc, ta, tn, tc, na, nn, nc⟩ := d;obtain ⟨tnm, kd, rl, pr⟩ := ti;simp only at *;subst hta;clear hT hl htj htt HTOK;have htz : (t : Int) < (tn : Int) := by omega
 have htA : (0 : Int) <= (t : Int) := by omega
 obtain ⟨tk, htk⟩ : ∃ tk, timedK kd = tk := ⟨_, rfl⟩;have HAL := hI fun W => timed_sw kd W htk
 have HTK := hI htk;clear htk;go_enter Tryz.func56, Tryz.ntmps56
 go_upto_region 1 with fail
 obtain ⟨W0, hW0⟩ : ∃ W0, (w.alloc (.cells #[.int .i64 rid, .string name, .int .i64 len, .int .i64 day, .slice sa sn sc, .slice (some ad) tn tc, .slice na nn nc] 38)) = W0 := ⟨_, rfl⟩;have HB0 : Hid (Below w.heap.size w W0) := by rw [<- hW0]; exact (bR.alloc (by simp <;> omega) _)
 have hz0 : W0.heap.size = w.heap.size + 1 := by rw [<- hW0]; simp
 have HC0 : Hid (∀ X, Below W0.heap.size W0 X -> X.rangeAt (w.heap.size) 0 [.int .i64 rid, .string name, .int .i64 len, .int .i64 day, .slice sa sn sc, .slice (some ad) tn tc, .slice na nn nc]) := fun X hX => by
  refine range_below hX (by omega) fun j v hv => ?_
  rw [<- hW0, Nat.zero_add]; rw [World.cell?_alloc_at _ _ _ _ (by simp), <- hv, <- List.getElem?_toArray]; try rfl
 (try rw [hW0])
 clear hW0;obtain ⟨q0, q1, q2, q3⟩ := hcells W0 HB0.out;have g0 := HC0.out W0 bR;have k5 : W0.cell? ⟨w.heap.size, 5, none⟩ = some (.slice (some ad) tn tc) := g0 5 _ rfl;have k6 : W0.cell? ⟨w.heap.size, 6, none⟩ = some (.slice na nn nc) := g0 6 _ rfl;clear g0 hcells;go_upto_region 2 with fail
 clear q0 q1 q2 q3 k5 k6;go_wp2_with fail
 go_loopw [6, 7, 8, 9, 10, 11] (fun v6 v7 _ _ _ _ wr => ∃ (i : Nat) (r : Int), i <= nn /\ v7 = .int .i64 i /\ v6 = .int .i64 r /\ Hid (r = 0 -> ∀ (j : Nat) (x : Nt), j < i -> l[j]? = some x -> x.tier = (t : Int) -> SibOk kd (sibF l (t : Int) x.parent)) /\ Hid (Below W0.heap.size W0 wr)) (fun _ v7 _ _ _ _ _ => nn - (intOf v7).toNat)
 case atStart => exact ⟨0, 0, Nat.zero_le _, rfl, rfl, fun _ j x h => by omega, Below.refl _ _⟩
 case round =>
  obtain ⟨i, r, hi, rfl, rfl, HP, HB1⟩ := hrel;obtain ⟨w0, hw0⟩ : ∃ w0, wr = w0 := ⟨_, rfl⟩;rw [hw0] at HB1 |-;clear hw0;have HBW : Hid (Below w.heap.size w w0) := HB0.out.trans (HB1.out.mono HB0.out.size);have g0 := HC0.out w0 HB1.out;have k6 : w0.cell? ⟨w.heap.size, 6, none⟩ = some (.slice na nn nc) := g0 6 _ rfl;clear g0;by_cases hlt : i < nn
  ·have hiz : (i : Int) < (nn : Int) := by omega
   have hiA : (0 : Int) <= (i : Int) := by omega
   have HI := hI hlt;obtain ⟨bd, x, rfl, hbb, hx, hcells⟩ := HL.out.at_ hlt;obtain ⟨q0, q1, q2, q3, q4, q5, q6⟩ := hcells w0 HBW.out;have HX := hI hx
   have HNX : Hid (∀ r2 : Int, (r2 = 0 -> r = 0 /\ (x.tier = (t : Int) -> SibOk kd (sibF l (t : Int) x.parent))) -> (r2 = 0 -> ∀ (j : Nat) (y : Nt), j < i + 1 -> l[j]? = some y -> y.tier = (t : Int) -> SibOk kd (sibF l (t : Int) y.parent))) := fun r2 h h0 j y hj hy hyt => by
    by_cases e : j = i
    ·subst e;rw [HX.out] at hy
     cases hy;exact (h h0).2 hyt
    ·exact HP.out (h h0).1 j y (by omega) hy hyt
   clear hx hcells;go_upto_region 7 with fail
   obtain ⟨W1, hW2⟩ : ∃ W1, (w0.alloc (.cells #[.int .i64 x.nid, .int .i64 x.tier, .int .i64 x.parent, .int .i64 x.at1, .int .i64 x.at2, .int .i64 x.rank, .string x.text] 58)) = W1 := ⟨_, rfl⟩;have HB2 : Hid (Below w0.heap.size w0 W1) := by rw [<- hW2]; exact (bR.alloc (by simp <;> omega) _)
   have hz2 : W1.heap.size = w0.heap.size + 1 := by rw [<- hW2]; simp
   have HC2 : Hid (∀ X, Below W1.heap.size W1 X -> X.rangeAt (w0.heap.size) 0 [.int .i64 x.nid, .int .i64 x.tier, .int .i64 x.parent, .int .i64 x.at1, .int .i64 x.at2, .int .i64 x.rank, .string x.text]) := fun X hX => by
    refine range_below hX (by omega) fun j v hv => ?_
    rw [<- hW2, Nat.zero_add]; rw [World.cell?_alloc_at _ _ _ _ (by simp), <- hv, <- List.getElem?_toArray]; try rfl
   (try rw [hW2])
   clear hW2;have HB12 : Hid (Below W0.heap.size W0 W1) := HB1.out.trans (HB2.out.mono HB1.out.size);have HBW1 : Hid (Below w.heap.size w W1) := HBW.out.trans (HB2.out.mono HBW.out.size);have g1 := HC2.out W1 bR;have m1 : W1.cell? ⟨w0.heap.size, 1, none⟩ = some (.int .i64 x.tier) := g1 1 _ rfl;have m2 : W1.cell? ⟨w0.heap.size, 2, none⟩ = some (.int .i64 x.parent) := g1 2 _ rfl;clear q0 q1 q2 q3 q4 q5 q6 k6 g1;by_cases ht0 : x.tier = (t : Int)
   ·have hbt : (x.tier != (t : Int)) = false := by rw [bne_eq_false_iff_eq]; exact ht0
    have HT0 := hI ht0;clear ht0;have g0 := HC0.out W1 HB12.out;obtain ⟨k0, k1, k2, k3, k4, k5, k6⟩ := range7 g0;clear g0;have HS := hI (HSB.out x.parent W1 HBW1.out);go_wp2_with fail
    refine HS.out.mono ?_;rintro e w2 ⟨v, rfl, ho, hb⟩;obtain ⟨A2, c2, rfl, hc1, hc2, hr⟩ := OwnR.form ho;have HSL : Hid ((sibF l (t : Int) x.parent).length <= 14) := by have := sibF_len (l := l) (tier := (t : Int)) (parent := x.parent); show _ <= _; rw [HLN.out] at this; omega
    obtain ⟨ss, hss⟩ : ∃ ss, sibF l (t : Int) x.parent = ss := ⟨_, rfl⟩;rw [hss] at hr HSL HNX hc1 |-;clear hss;have HSR : Hid (NotesR w2 w2.heap.size A2 ss.length ss) := hr;have HB22 : Hid (Below W1.heap.size W1 w2) := hb;have HBW2 : Hid (Below w.heap.size w w2) := HBW1.out.trans (hb.mono HBW1.out.size);have HB02 : Hid (Below W0.heap.size W0 w2) := HB12.out.trans (hb.mono HB12.out.size);clear ho hb hr HS m1 m2 k0 k1 k2 k3 k4 k5 k6;obtain ⟨sl, hsl⟩ : ∃ sl, ss.length = sl := ⟨_, rfl⟩;rw [hsl] at HSR HSL hc1 |-;have HSLN := hI hsl;have hsl14 : sl <= 14 := HSL.out;clear hsl;have HOV := hI (overlap_any A2 sl c2 ss w2 HSR.out (by omega))
    cases tk with
    | true =>
     go_wp2_with (go_at_call 80; with_reducible refine (HAL.out _).mono ?_; rintro e w9 ⟨rfl, rfl⟩)
     refine HOV.out.mono ?_;rintro e w3 ⟨ob, rfl, hob, hb3⟩;have HB23 : Hid (Below w2.heap.size w2 w3) := hb3;have HBW3 : Hid (Below w.heap.size w w3) := HBW2.out.trans (hb3.mono HBW2.out.size);have HB03 : Hid (Below W0.heap.size W0 w3) := HB02.out.trans (hb3.mono HB02.out.size);have HBX3 : Hid (Below W1.heap.size W1 w3) := HB22.out.trans (hb3.mono HB22.out.size);have HOB := hI hob;clear hb3 hob HOV
     cases ob with
     | true =>
      go_wp2;go_ret;exact IntIf.of 15 (fun h => absurd h (by decide)) HBW3.out
     | false =>
      have HNOV : Hid (timedK kd = true -> NoOver ss) := fun _ => HOB.out rfl
      have g0 := HC0.out w3 HB03.out;obtain ⟨k0, k1, k2, k3, k4, k5, k6⟩ := range7 g0;have m2 : w3.cell? ⟨w0.heap.size, 2, none⟩ = some (.int .i64 x.parent) := (HC2.out w3 HBX3.out) 2 _ rfl;clear g0;have HG := hI (HGT.out x.parent w3 HBW3.out);unfold getV noteV at HG;obtain ⟨px, hpx⟩ : ∃ px, (getN l x.parent).getD nt0 = px := ⟨_, rfl⟩;obtain ⟨ok, hok⟩ : ∃ ok, (getN l x.parent).isSome = ok := ⟨_, rfl⟩;rw [hpx, hok] at HG;clear hpx hok;go_wp2_with fail
      refine HG.out.mono ?_;rintro e w4 ⟨rfl, hb4⟩;have HBW4 : Hid (Below w.heap.size w w4) := HBW3.out.trans (hb4.mono HBW3.out.size);have HB04 : Hid (Below W0.heap.size W0 w4) := HB03.out.trans (hb4.mono HB03.out.size);have HB24 : Hid (Below w2.heap.size w2 w4) := HB23.out.trans (hb4.mono HB23.out.size);clear hb4 HG m2 k0 k1 k2 k3 k4 k5 k6;go_upto_region 12 with fail
      obtain ⟨w5, hW5⟩ : ∃ w5, (w4.alloc (.cells #[.int .i64 px.nid, .int .i64 px.tier, .int .i64 px.parent, .int .i64 px.at1, .int .i64 px.at2, .int .i64 px.rank, .string px.text] 58)) = w5 := ⟨_, rfl⟩;have HB5 : Hid (Below w4.heap.size w4 w5) := by rw [<- hW5]; exact (bR.alloc (by simp <;> omega) _)
      have hz5 : w5.heap.size = w4.heap.size + 1 := by rw [<- hW5]; simp
      have HC5 : Hid (∀ X, Below w5.heap.size w5 X -> X.rangeAt (w4.heap.size) 0 [.int .i64 px.nid, .int .i64 px.tier, .int .i64 px.parent, .int .i64 px.at1, .int .i64 px.at2, .int .i64 px.rank, .string px.text]) := fun X hX => by
       refine range_below hX (by omega) fun j v hv => ?_
       rw [<- hW5, Nat.zero_add]; rw [World.cell?_alloc_at _ _ _ _ (by simp), <- hv, <- List.getElem?_toArray]; try rfl
      (try rw [hW5])
      clear hW5;have HBW5 : Hid (Below w.heap.size w w5) := HBW4.out.trans (HB5.out.mono HBW4.out.size);have HB05 : Hid (Below W0.heap.size W0 w5) := HB04.out.trans (HB5.out.mono HB04.out.size);have HB25 : Hid (Below w2.heap.size w2 w5) := HB24.out.trans (HB5.out.mono HB24.out.size);have z3 : kd ≠ 3 := fun h => by have h9 := HTK.out; rw [h] at h9; exact absurd h9 (by decide)
      have z4 : kd ≠ 4 := fun h => by have h9 := HTK.out; rw [h] at h9; exact absurd h9 (by decide)
      have b3 : (kd == 3) = false := beq_eq_false_iff_ne.2 z3;have b4 : (kd == 4) = false := beq_eq_false_iff_ne.2 z4;have HSO : Hid (SibOk kd ss) := ⟨HNOV.out, fun h => absurd h z3, fun h => absurd h z4⟩;clear z3 z4;by_cases z1 : kd = 1
      ·have b1 : (kd == 1) = true := beq_iff_eq.2 z1;clear z1;go_wp2_with fail
       refine wp_hideQ fun QQ hQQ => ?_
       refine wp_region_told [Told.is (.int .i64 kd), Told.is (.bool true), Told.is (.bool true), Told.is (.slice A2 sl c2), Told.such (fun v w' => ∃ A' c', v = .slice A' sl c' /\ SpR w' w'.heap.size A' sl (spansL ss)) (fun v w w' h hb => by obtain ⟨A', c', h1, h2⟩ := h; exact ⟨A', c', h1, SpR.on h2 hb⟩), Told.is (.pointer (some ⟨w4.heap.size, 3, none⟩)), Told.is (.agg #[.int .i64 px.at1, .int .i64 px.at2]), Told.such (fun v _ => ∃ b : Bool, v = .bool b) (fun v w w' h _ => h), Told.such (fun v _ => ∃ b : Bool, v = .bool b) (fun v w w' h _ => h), Told.such (fun v _ => ∃ b : Bool, v = .bool b) (fun v w w' h _ => h)] (by kernel_rfl) (by kernel_rfl) ?_ ?_
       ·refine And.intro ?_ ?_
        ·intro w1 vals hB hd K hK;simp only [putAll, Act.put, pS] at hK |-;clear hd;refine gwp_none rfl ?_;go_simp;exact hK _ _ rfl bR
        refine And.intro ?_ ?_
        ·intro w1 vals hB hd K hK;simp only [putAll, Act.put, pS] at hK |-;have e0 := tI (hd 0 rfl) rfl;clear hd;simp only [e0] at hK |-;clear e0;refine gwp_none rfl ?_;go_simp;exact hK _ _ rfl bR
        refine And.intro ?_ ?_
        ·intro w1 vals hB hd K hK;simp only [putAll, Act.put, pS] at hK |-;have e1 := tI (hd 1 rfl) rfl;clear hd;simp only [e1] at hK |-;clear e1;refine gwp_none rfl ?_;go_simp;exact hK _ _ rfl bR
        refine And.intro ?_ ?_
        ·intro w1 vals hB hd K hK;simp only [putAll, Act.put, pS] at hK |-;have g2 := tI (hd 2 rfl) rfl;clear hd;refine gwp_some rfl g2 ?_;clear g2;go_simp;exact hK _ _ rfl bR
        refine And.intro ?_ ?_
        ·intro w1 vals hB hd K hK;simp only [putAll, Act.put, pS] at hK |-;have e3 := tI (hd 3 rfl) rfl;have g2 := tI (hd 2 rfl) rfl;clear hd;simp only [e3] at hK |-;clear e3;refine gwp_some rfl g2 ?_;clear g2;go_simp;refine (spans_any A2 sl c2 ss w1 (HSR.out.on (HB25.out.trans (hB.mono HB25.out.size))) (by omega)).mono ?_;rintro e w7 ⟨v, rfl, ho, hb⟩;obtain ⟨A7, c7, hv7, _, _, hr7⟩ := SpO.form ho;have hsl7 : (spansL ss).length = sl := by unfold spansL; rw [List.length_map, HSLN.out]
         rw [hsl7] at hv7 hr7;exact hK _ _ ⟨A7, c7, hv7, hr7⟩ hb
        refine And.intro ?_ ?_
        ·intro w1 vals hB hd K hK;simp only [putAll, Act.put, pS] at hK |-;have g2 := tI (hd 2 rfl) rfl;clear hd;refine gwp_some rfl g2 ?_;clear g2;go_simp;exact hK _ _ rfl bR
        refine And.intro ?_ ?_
        ·intro w1 vals hB hd K hK;simp only [putAll, Act.put, pS] at hK |-;have e5 := tI (hd 5 rfl) rfl;have g2 := tI (hd 2 rfl) rfl;clear hd;simp only [e5] at hK |-;clear e5;refine gwp_some rfl g2 ?_;clear g2
         have h58 : w1.rangeAt w4.heap.size 3 [.int .i64 px.at1, .int .i64 px.at2] := fun n v hv => by
          have h0 := HC5.out w1 hB;match n, hv with
          | 0, hv => cases hv; exact h0 3 _ rfl
          | 1, hv => cases hv; exact h0 4 _ rfl
         refine wp_load_mid 56 (.tmp 57) rfl w4.heap.size 3 rfl [.int .i64 px.at1, .int .i64 px.at2] _ h58 Tryz.underlying56 rfl (by kernel_rfl) ?_;simp only [Act.put, pS];exact hK _ _ rfl bR
        refine And.intro ?_ ?_
        ·intro w1 vals hB hd K hK;simp only [putAll, Act.put, pS] at hK |-;have p4 := told_at (hd 4 rfl) rfl;simp only [Told.holds] at p4;have e6 := tI (hd 6 rfl) rfl;have g2 := tI (hd 2 rfl) rfl;clear hd;obtain ⟨x4, hx4⟩ : ∃ x, vals 4 = x := ⟨_, rfl⟩;rw [hx4] at p4;simp only [e6, hx4] at hK |-;clear e6 hx4;refine gwp_some rfl g2 ?_;clear g2;obtain ⟨A', c', rfl, hs⟩ := p4;go_simp;refine (covers_any A' sl c' (spansL ss) px.at1 px.at2 w1 hs (by omega)).mono ?_;rintro e w7 ⟨b, rfl, _, hb⟩;exact hK _ _ ⟨b, rfl⟩ hb
        refine And.intro ?_ ?_
        ·intro w1 vals hB hd K hK;simp only [putAll, Act.put, pS] at hK |-;have p7 := told_at (hd 7 rfl) rfl;simp only [Told.holds] at p7;have g2 := tI (hd 2 rfl) rfl;clear hd;obtain ⟨x7, hx7⟩ : ∃ x, vals 7 = x := ⟨_, rfl⟩;rw [hx7] at p7;simp only [hx7] at hK |-;clear hx7;refine gwp_some rfl g2 ?_;clear g2;obtain ⟨b, rfl⟩ := p7;go_simp;exact hK _ _ ⟨_, rfl⟩ bR
        refine And.intro ?_ ?_
        ·intro w1 vals hB hd K hK;simp only [putAll, Act.put, pS] at hK |-;have e2 := tI (hd 2 rfl) rfl;have p8 := told_at (hd 8 rfl) rfl;simp only [Told.holds] at p8;clear hd;obtain ⟨x8, hx8⟩ : ∃ x, vals 8 = x := ⟨_, rfl⟩;rw [hx8] at p8;simp only [e2, hx8] at hK |-;clear e2 hx8;refine gwp_none rfl ?_;obtain ⟨b, rfl⟩ := p8
         cases b
         ·go_simp;exact hK _ _ ⟨false, rfl⟩ bR
         ·go_simp;exact hK _ _ ⟨true, rfl⟩ bR
        exact trivial
       ·intro w1 vals hB hd;have p9 := told_at (hd 9 (by decide)) rfl;simp only [Told.holds] at p9;obtain ⟨x9, hx9⟩ : ∃ x, vals 9 = x := ⟨_, rfl⟩;rw [hx9] at p9;clear hd;simp only [putAll, Act.put, pS];simp only [hx9];clear hx9;rw [hQQ];clear hQQ;obtain ⟨b, rfl⟩ := p9;have HB06 : Hid (Below W0.heap.size W0 w1) := HB05.out.trans (hB.mono HB05.out.size);clear hB
        cases b with
        | true =>
         have HN2 := hI (HNX.out 16 fun h => absurd h (by decide));go_wp2;go_roundw
         case rel => exact ⟨i + 1, 16, HI.out, by go_num, rfl, HN2, HB06⟩
         case measure => have := HI.out; simp [intOf]; omega
        | false =>
         have HN2 := hI (HNX.out r fun h => ⟨h, fun _ => HSO.out⟩);go_wp2;go_roundw
         case rel => exact ⟨i + 1, r, HI.out, by go_num, rfl, HN2, HB06⟩
         case measure => have := HI.out; simp [intOf]; omega
      ·have b1 : (kd == 1) = false := beq_eq_false_iff_ne.2 z1;have HN2 := hI (HNX.out r fun h => ⟨h, fun _ => HSO.out⟩);clear z1;go_wp2_with fail
       go_quiet (fail)
       have HB06 : Hid (Below W0.heap.size W0 (w5.drewN nq)) := below_drewN HB05.out nq;have HB26 : Hid (Below w2.heap.size w2 (w5.drewN nq)) := below_drewN HB25.out nq;obtain ⟨w6, hw6⟩ : ∃ w6, w5.drewN nq = w6 := ⟨_, rfl⟩;rw [hw6] at HB06 HB26 |-;clear hw6;go_wp2;go_roundw
       case rel => exact ⟨i + 1, r, HI.out, by go_num, rfl, HN2, HB06⟩
       case measure => have := HI.out; simp [intOf]; omega
    | false =>
     have HNOV : Hid (timedK kd = true -> NoOver ss) := fun h => by rw [HTK.out] at h; cases h
     have HB22r : Hid (Below w2.heap.size w2 w2) := Below.refl _ _;clear HOV;have g0 := HC0.out w2 HB02.out;obtain ⟨k0, k1, k2, k3, k4, k5, k6⟩ := range7 g0;have m2 : w2.cell? ⟨w0.heap.size, 2, none⟩ = some (.int .i64 x.parent) := (HC2.out w2 HB22.out) 2 _ rfl;clear g0;have HG := hI (HGT.out x.parent w2 HBW2.out);unfold getV noteV at HG;obtain ⟨px, hpx⟩ : ∃ px, (getN l x.parent).getD nt0 = px := ⟨_, rfl⟩;obtain ⟨ok, hok⟩ : ∃ ok, (getN l x.parent).isSome = ok := ⟨_, rfl⟩;rw [hpx, hok] at HG;clear hpx hok;go_wp2_with (go_at_call 80; with_reducible refine (HAL.out _).mono ?_; rintro e w9 ⟨rfl, rfl⟩)
     refine HG.out.mono ?_;rintro e w4 ⟨rfl, hb4⟩;have HBW4 : Hid (Below w.heap.size w w4) := HBW2.out.trans (hb4.mono HBW2.out.size);have HB04 : Hid (Below W0.heap.size W0 w4) := HB02.out.trans (hb4.mono HB02.out.size);have HB24 : Hid (Below w2.heap.size w2 w4) := HB22r.out.trans (hb4.mono HB22r.out.size);clear hb4 HG m2 k0 k1 k2 k3 k4 k5 k6;go_upto_region 12 with fail
     obtain ⟨w5, hW5⟩ : ∃ w5, (w4.alloc (.cells #[.int .i64 px.nid, .int .i64 px.tier, .int .i64 px.parent, .int .i64 px.at1, .int .i64 px.at2, .int .i64 px.rank, .string px.text] 58)) = w5 := ⟨_, rfl⟩;have HB5 : Hid (Below w4.heap.size w4 w5) := by rw [<- hW5]; exact (bR.alloc (by simp <;> omega) _)
     have hz5 : w5.heap.size = w4.heap.size + 1 := by rw [<- hW5]; simp
     have HC5 : Hid (∀ X, Below w5.heap.size w5 X -> X.rangeAt (w4.heap.size) 0 [.int .i64 px.nid, .int .i64 px.tier, .int .i64 px.parent, .int .i64 px.at1, .int .i64 px.at2, .int .i64 px.rank, .string px.text]) := fun X hX => by
      refine range_below hX (by omega) fun j v hv => ?_
      rw [<- hW5, Nat.zero_add]; rw [World.cell?_alloc_at _ _ _ _ (by simp), <- hv, <- List.getElem?_toArray]; try rfl
     (try rw [hW5])
     clear hW5;have HBW5 : Hid (Below w.heap.size w w5) := HBW4.out.trans (HB5.out.mono HBW4.out.size);have HB05 : Hid (Below W0.heap.size W0 w5) := HB04.out.trans (HB5.out.mono HB04.out.size);have HB25 : Hid (Below w2.heap.size w2 w5) := HB24.out.trans (HB5.out.mono HB24.out.size);have z1 : kd ≠ 1 := fun h => by have h9 := HTK.out; rw [h] at h9; exact absurd h9 (by decide)
     have b1 : (kd == 1) = false := beq_eq_false_iff_ne.2 z1;clear z1;by_cases z3 : kd = 3
     ·have b3 : (kd == 3) = true := beq_iff_eq.2 z3;have b4 : (kd == 4) = false := beq_eq_false_iff_ne.2 (by omega);have Z3 := hI z3;clear z3;go_wp2_with fail
      go_quiet (fail)
      have HB06 : Hid (Below W0.heap.size W0 (w5.drewN nq)) := below_drewN HB05.out nq;have HB26 : Hid (Below w2.heap.size w2 (w5.drewN nq)) := below_drewN HB25.out nq;obtain ⟨w6, hw6⟩ : ∃ w6, w5.drewN nq = w6 := ⟨_, rfl⟩;rw [hw6] at HB06 HB26 |-;clear hw6;have HRK := hI (ranked_any A2 sl c2 ss w6 (HSR.out.on HB26.out) (by omega));go_wp2_with fail
      refine HRK.out.mono ?_;rintro e w7 ⟨rk, rfl, hrk, hb7⟩;have HRKO := hI hrk;have HB07 : Hid (Below W0.heap.size W0 w7) := HB06.out.trans (hb7.mono HB06.out.size);clear hb7 hrk HRK
      cases rk with
      | true =>
       have HSO : Hid (SibOk kd ss) := ⟨HNOV.out, fun _ => HRKO.out rfl, fun h => absurd (Z3.out.symm.trans h) (by decide)⟩;have HN2 := hI (HNX.out r fun h => ⟨h, fun _ => HSO.out⟩);go_wp2;go_roundw
       case rel => exact ⟨i + 1, r, HI.out, by go_num, rfl, HN2, HB07⟩
       case measure => have := HI.out; simp [intOf]; omega
      | false =>
       have HN2 := hI (HNX.out 10 fun h => absurd h (by decide));go_wp2;go_roundw
       case rel => exact ⟨i + 1, 10, HI.out, by go_num, rfl, HN2, HB07⟩
       case measure => have := HI.out; simp [intOf]; omega
     ·have b3 : (kd == 3) = false := beq_eq_false_iff_ne.2 z3;by_cases z4 : kd = 4
      ·have b4 : (kd == 4) = true := beq_iff_eq.2 z4;have Z4 := hI z4;clear z3 z4;go_wp2_with fail
       go_quiet (fail)
       have HB06 : Hid (Below W0.heap.size W0 (w5.drewN nq)) := below_drewN HB05.out nq;have HB26 : Hid (Below w2.heap.size w2 (w5.drewN nq)) := below_drewN HB25.out nq;obtain ⟨w6, hw6⟩ : ∃ w6, w5.drewN nq = w6 := ⟨_, rfl⟩;rw [hw6] at HB06 HB26 |-;clear hw6;by_cases s1 : 1 < sl
       ·have s1z : (1 : Int) < (sl : Int) := by omega
        have HN2 := hI (HNX.out 8 fun h => absurd h (by decide));go_wp2;go_roundw
        case rel => exact ⟨i + 1, 8, HI.out, by go_num, rfl, HN2, HB06⟩
        case measure => have := HI.out; simp [intOf]; omega
       ·have s1z : ¬ (1 : Int) < (sl : Int) := by omega
        have HSO : Hid (SibOk kd ss) := ⟨HNOV.out, fun h => absurd (Z4.out.symm.trans h) (by decide), fun _ => by rw [HSLN.out]; omega⟩;have HN2 := hI (HNX.out r fun h => ⟨h, fun _ => HSO.out⟩);go_wp2;go_roundw
        case rel => exact ⟨i + 1, r, HI.out, by go_num, rfl, HN2, HB06⟩
        case measure => have := HI.out; simp [intOf]; omega
      ·have b4 : (kd == 4) = false := beq_eq_false_iff_ne.2 z4;have HSO : Hid (SibOk kd ss) := ⟨HNOV.out, fun h => absurd h z3, fun h => absurd h z4⟩;have HN2 := hI (HNX.out r fun h => ⟨h, fun _ => HSO.out⟩);clear z3 z4;go_wp2_with fail
       go_quiet (fail)
       have HB06 : Hid (Below W0.heap.size W0 (w5.drewN nq)) := below_drewN HB05.out nq;have HB26 : Hid (Below w2.heap.size w2 (w5.drewN nq)) := below_drewN HB25.out nq;obtain ⟨w6, hw6⟩ : ∃ w6, w5.drewN nq = w6 := ⟨_, rfl⟩;rw [hw6] at HB06 HB26 |-;clear hw6;go_wp2;go_roundw
       case rel => exact ⟨i + 1, r, HI.out, by go_num, rfl, HN2, HB06⟩
       case measure => have := HI.out; simp [intOf]; omega
   ·have hbt : (x.tier != (t : Int)) = true := bne_iff_ne.2 ht0;have HN2 := hI (HNX.out r fun h => ⟨h, fun h2 => absurd h2 ht0⟩);clear ht0;go_wp2;go_roundw
    case rel => exact ⟨i + 1, r, HI.out, by go_num, rfl, HN2, HB12⟩
    case measure => have := HI.out; simp [intOf]; omega
  ·obtain rfl : nn = i := by omega
   have hiz : ¬ (nn : Int) < (nn : Int) := by omega
   have HF : Hid (r = 0 -> ∀ x ∈ l, x.tier = (t : Int) -> SibOk kd (sibF l (t : Int) x.parent)) := fun h x hx hxt => by
    obtain ⟨j, hj⟩ := List.getElem?_of_mem hx;exact HP.out h j x (by rw [<- HLN.out]; exact (List.getElem?_eq_some_iff.1 hj).1) hj hxt
   go_wp2;go_ret;exact IntIf.of r HF.out HBW.out
set_option maxHeartbeats 4000000 in
set_option maxRecDepth 100000 in
theorem check12_any (d : Dv) (T : List Ti) (l : List Nt) (w : World) (hT : TiersR w w.heap.size d.ta d.tn T) (hl : NotesR w w.heap.size d.na d.nn l) (hn : d.nn <= 14) (ht : d.tn <= 6) :
  Calls Tryz.prog 35 #[docV d] w (IntIf (fun r => r = 0 -> DocOk T l) w) := by
 have HLN := hI hl.len;have HTN := hI hT.len;have HC11 := hI fun (W : World) (hW : Below w.heap.size w W) => check11_any d.ta d.tn d.tc T W (hT.on hW) (by omega)
 have HNE := hI fun (i : Nat) (hi : i < d.nn) (W : World) (hW : Below w.heap.size w W) => noteError_any d T l i W (hT.on hW) (hl.on hW) (by omega) (by omega) hi
 have HTE := hI fun (t : Nat) (hi : t < d.tn) (W : World) (hW : Below w.heap.size w W) => tierError_any d T l t W (hT.on hW) (hl.on hW) hn hi
 clear hT hl;unfold docV at HNE HTE;unfold docV;obtain ⟨rid, name, len, day, sa, sn, sc, ta, tn, tc, na, nn, nc⟩ := d;simp only at *;go_enter Tryz.func35, Tryz.ntmps35
 go_upto_region 1 with fail
 obtain ⟨W0, hW0⟩ : ∃ W0, (w.alloc (.cells #[.int .i64 rid, .string name, .int .i64 len, .int .i64 day, .slice sa sn sc, .slice ta tn tc, .slice na nn nc] 38)) = W0 := ⟨_, rfl⟩;have HB0 : Hid (Below w.heap.size w W0) := by rw [<- hW0]; exact (bR.alloc (by simp <;> omega) _)
 have hz0 : W0.heap.size = w.heap.size + 1 := by rw [<- hW0]; simp
 have HC0 : Hid (∀ X, Below W0.heap.size W0 X -> X.rangeAt (w.heap.size) 0 [.int .i64 rid, .string name, .int .i64 len, .int .i64 day, .slice sa sn sc, .slice ta tn tc, .slice na nn nc]) := fun X hX => by
  refine range_below hX (by omega) fun j v hv => ?_
  rw [<- hW0, Nat.zero_add]; rw [World.cell?_alloc_at _ _ _ _ (by simp), <- hv, <- List.getElem?_toArray]; try rfl
 (try rw [hW0])
 clear hW0;have g0 := HC0.out W0 bR;have k5 : W0.cell? ⟨w.heap.size, 5, none⟩ = some (.slice ta tn tc) := g0 5 _ rfl;clear g0;go_wp2_with fail
 refine (HC11.out W0 HB0.out).mono ?_;rintro e w1 ⟨r, rfl, hr, hb1⟩;have HR := hI hr;have HB01 : Hid (Below W0.heap.size W0 w1) := hb1;have HB1 : Hid (Below w.heap.size w w1) := HB0.out.trans (hb1.mono HB0.out.size);clear hb1 hr k5;by_cases r0 : r = 0
 ·subst r0;have HTI := hI (HR.out rfl);have g0 := HC0.out w1 HB01.out;have k2 : w1.cell? ⟨w.heap.size, 2, none⟩ = some (.int .i64 len) := g0 2 _ rfl;have k6 : w1.cell? ⟨w.heap.size, 6, none⟩ = some (.slice na nn nc) := g0 6 _ rfl;clear g0;by_cases l0 : len < 0
  ·have l1 : decide (len < 0) = true := decide_eq_true l0;go_wp2;go_ret;exact IntIf.of 12 (fun h => absurd h (by decide)) HB1.out
  ·have l1 : decide (len < 0) = false := decide_eq_false l0;by_cases l2 : 86400000 < len
   ·have l3 : decide (len > 86400000) = true := decide_eq_true l2;have l3' : decide (86400000 < len) = true := decide_eq_true l2;go_wp2;go_ret;exact IntIf.of 12 (fun h => absurd h (by decide)) HB1.out
   ·have l3 : decide (len > 86400000) = false := decide_eq_false l2;have l3' : decide (86400000 < len) = false := decide_eq_false l2;have n3 : ¬ (300 : Int) < (nn : Int) := by omega
    go_wp2_with fail
    clear k2 k6 l0 l1 l2 l3 l3';go_loopw [4] (fun v4 wr => ∃ i : Nat, i <= nn /\ v4 = .int .i64 i /\ Hid (∀ j, j < i -> NOk T l j) /\ Hid (Below W0.heap.size W0 wr)) (fun v4 _ => nn - (intOf v4).toNat)
    case atStart => exact ⟨0, Nat.zero_le _, rfl, fun j h => by omega, HB01⟩
    case round =>
     clear HB01 HB1;obtain ⟨i, hi, rfl, HP, HB01⟩ := hrel;obtain ⟨w2, hw2⟩ : ∃ w2, wr = w2 := ⟨_, rfl⟩;rw [hw2] at HB01 |-;clear hw2;have HB2 : Hid (Below w.heap.size w w2) := HB0.out.trans (HB01.out.mono HB0.out.size);have g0 := HC0.out w2 HB01.out;obtain ⟨k0, k1, k2, k3, k4, k5, k6⟩ := range7 g0;clear g0;by_cases hlt : i < nn
     ·have hiz : (i : Int) < (nn : Int) := by omega
      have HI := hI hlt;have HE := hI (HNE.out i hlt w2 HB2.out);go_wp2_with fail
      refine HE.out.mono ?_;rintro e w3 ⟨r, rfl, hr, hb3⟩;have HR3 := hI hr;have HB03 : Hid (Below W0.heap.size W0 w3) := HB01.out.trans (hb3.mono HB01.out.size);have HB3 : Hid (Below w.heap.size w w3) := HB2.out.trans (hb3.mono HB2.out.size);clear hb3 hr HE k0 k1 k2 k3 k4 k5 k6;by_cases r0 : r = 0
      ·subst r0
       have HP2 : Hid (∀ j, j < i + 1 -> NOk T l j) := fun j hj => by
        by_cases e : j = i
        ·subst e; exact HR3.out rfl
        ·exact HP.out j (by omega)
       go_wp2;go_roundw
       case rel => exact ⟨i + 1, HI.out, by go_num, HP2, HB03⟩
       case measure => have := HI.out; simp [intOf]; omega
      ·have rb : (r != 0) = true := bne_iff_ne.2 r0;have HR0 := hI r0;clear r0;go_wp2;go_ret;exact IntIf.of r (fun h => absurd h HR0.out) HB3.out
     ·obtain rfl : nn = i := by omega
      have hiz : ¬ (nn : Int) < (nn : Int) := by omega
      have HNT : Hid (∀ i, i < l.length -> NOk T l i) := fun i hi => HP.out i (by rw [<- HLN.out]; exact hi)
      go_wp2_with fail
      clear k0 k1 k2 k3 k4 k5 k6 HP HNE hiz;go_loopw [6] (fun v6 wr => ∃ i : Nat, i <= tn /\ v6 = .int .i64 i /\ Hid (∀ j : Nat, j < i -> TierOk T l (j : Int)) /\ Hid (Below W0.heap.size W0 wr)) (fun v6 _ => tn - (intOf v6).toNat)
      case atStart => exact ⟨0, Nat.zero_le _, rfl, fun j h => by omega, HB01⟩
      case round =>
       clear HB01 HB2;obtain ⟨i, hi, rfl, HP, HB01⟩ := hrel;obtain ⟨w2, hw2⟩ : ∃ w2, wr = w2 := ⟨_, rfl⟩;rw [hw2] at HB01 |-;clear hw2;have HB2 : Hid (Below w.heap.size w w2) := HB0.out.trans (HB01.out.mono HB0.out.size);have g0 := HC0.out w2 HB01.out;obtain ⟨k0, k1, k2, k3, k4, k5, k6⟩ := range7 g0;clear g0;by_cases hlt : i < tn
       ·have hiz : (i : Int) < (tn : Int) := by omega
        have HI := hI hlt;have HE := hI (HTE.out i hlt w2 HB2.out);go_wp2_with fail
        refine HE.out.mono ?_;rintro e w3 ⟨r, rfl, hr, hb3⟩;have HR3 := hI hr;have HB03 : Hid (Below W0.heap.size W0 w3) := HB01.out.trans (hb3.mono HB01.out.size);have HB3 : Hid (Below w.heap.size w w3) := HB2.out.trans (hb3.mono HB2.out.size);clear hb3 hr HE k0 k1 k2 k3 k4 k5 k6;by_cases r0 : r = 0
        ·subst r0
         have HP2 : Hid (∀ j : Nat, j < i + 1 -> TierOk T l (j : Int)) := fun j hj => by
          by_cases e : j = i
          ·subst e; exact HR3.out rfl
          ·exact HP.out j (by omega)
         go_wp2;go_roundw
         case rel => exact ⟨i + 1, HI.out, by go_num, HP2, HB03⟩
         case measure => have := HI.out; simp [intOf]; omega
        ·have rb : (r != 0) = true := bne_iff_ne.2 r0;have HR0 := hI r0;clear r0;go_wp2;go_ret;exact IntIf.of r (fun h => absurd h HR0.out) HB3.out
       ·obtain rfl : tn = i := by omega
        have hiz : ¬ (tn : Int) < (tn : Int) := by omega
        have HF : Hid (DocOk T l) := ⟨HTI.out, HNT.out, fun t ht => HP.out t (by rw [<- HTN.out]; exact ht)⟩;go_wp2;go_ret;exact IntIf.of 0 (fun _ => HF.out) HB2.out
 ·have rb : (r != 0) = true := bne_iff_ne.2 r0;have HR0 := hI r0;clear r0;go_wp2;go_ret;exact IntIf.of r (fun h => absurd h HR0.out) HB1.out
def LightD (nn tn : Nat) (T : List Ti) (l : List Nt) (b : Bool) : Prop := b = true -> (nn <= 14 /\ tn <= 6) /\ DocOk T l
theorem lightD_no {nn tn : Nat} {T : List Ti} {l : List Nt} : LightD nn tn T l false := fun h => by cases h
theorem lightD_yes {nn tn : Nat} {T : List Ti} {l : List Nt} (h : (nn <= 14 /\ tn <= 6) /\ DocOk T l) : LightD nn tn T l true := fun _ => h
set_option maxHeartbeats 2000000 in
set_option maxRecDepth 100000 in
theorem lightD_any (d : Dv) (T : List Ti) (l : List Nt) (w : World) (hT : TiersR w w.heap.size d.ta d.tn T) (hl : NotesR w w.heap.size d.na d.nn l) :
  Calls Tryz.prog 17 #[docV d] w (BoolIf (LightD d.nn d.tn T l) w) := by
 have HCH := hI fun (h1 : d.nn <= 14) (h2 : d.tn <= 6) (W : World) (hW : Below w.heap.size w W) => check12_any d T l W (hT.on hW) (hl.on hW) h1 h2
 clear hT hl;unfold docV at HCH;unfold docV;obtain ⟨rid, name, len, day, sa, sn, sc, ta, tn, tc, na, nn, nc⟩ := d;simp only at *;go_enter Tryz.func17, Tryz.ntmps17
 go_upto_region 1 with fail
 obtain ⟨W0, hW0⟩ : ∃ W0, (w.alloc (.cells #[.int .i64 rid, .string name, .int .i64 len, .int .i64 day, .slice sa sn sc, .slice ta tn tc, .slice na nn nc] 38)) = W0 := ⟨_, rfl⟩;have HB0 : Hid (Below w.heap.size w W0) := by rw [<- hW0]; exact (bR.alloc (by simp <;> omega) _)
 have hz0 : W0.heap.size = w.heap.size + 1 := by rw [<- hW0]; simp
 have HC0 : Hid (∀ X, Below W0.heap.size W0 X -> X.rangeAt (w.heap.size) 0 [.int .i64 rid, .string name, .int .i64 len, .int .i64 day, .slice sa sn sc, .slice ta tn tc, .slice na nn nc]) := fun X hX => by
  refine range_below hX (by omega) fun j v hv => ?_
  rw [<- hW0, Nat.zero_add]; rw [World.cell?_alloc_at _ _ _ _ (by simp), <- hv, <- List.getElem?_toArray]; try rfl
 (try rw [hW0])
 clear hW0;have g0 := HC0.out W0 bR;obtain ⟨k0, k1, k2, k3, k4, k5, k6⟩ := range7 g0;clear g0;by_cases n1 : nn <= 14
 ·have n1z : (nn : Int) <= (14 : Int) := by omega
  by_cases n2 : tn <= 6
  ·have n2z : (tn : Int) <= (6 : Int) := by omega
   by_cases n3 : sn <= 6
   ·have n3z : (sn : Int) <= (6 : Int) := by omega
    have HE := hI (HCH.out n1 n2 W0 HB0.out);go_wp2_with fail
    refine HE.out.mono ?_;rintro e w1 ⟨r, rfl, hr, hb1⟩;have HR := hI hr;have HB1 : Hid (Below w.heap.size w w1) := HB0.out.trans (hb1.mono HB0.out.size);have HN12 : Hid (nn <= 14 /\ tn <= 6) := ⟨n1, n2⟩;clear hb1 hr HE k0 k1 k2 k3 k4 k5 k6;by_cases r0 : r = 0
    ·have rb : (r == 0) = true := beq_iff_eq.2 r0;have HF := hI (HR.out r0);clear r0;go_wp2;go_ret;exact BoolIf.of true (lightD_yes ⟨HN12.out, HF.out⟩) HB1.out
    ·have rb : (r == 0) = false := beq_eq_false_iff_ne.2 r0;clear r0;go_wp2;go_ret;exact BoolIf.of false lightD_no HB1.out
   ·have n3z : ¬ (sn : Int) <= (6 : Int) := by omega
    go_wp2;go_ret;exact BoolIf.of false lightD_no HB0.out
  ·have n2z : ¬ (tn : Int) <= (6 : Int) := by omega
   go_wp2;go_ret;exact BoolIf.of false lightD_no HB0.out
 ·have n1z : ¬ (nn : Int) <= (14 : Int) := by omega
  go_wp2;go_ret;exact BoolIf.of false lightD_no HB0.out
end
end Go.Proofs.YthcabnfcgjnlnaaGreatDoor
