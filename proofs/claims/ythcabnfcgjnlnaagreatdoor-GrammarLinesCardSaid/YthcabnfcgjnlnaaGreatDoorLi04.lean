import Derived.Test.YthcabnfcgjnlnaaGreatDoorB07
import Derived.Test.YthcabnfcgjnlnaaGreatDoorLi03
import Derived.Deep.Cut
import Derived.Deep.CutRange
set_option linter.unusedVariables false
set_option linter.unusedSimpArgs false
namespace Go.Proofs.YthcabnfcgjnlnaaGreatDoor
section
open Go.RowKit Ru Lay
attribute [local go_sem ↓] Go.wp_at_zero Go.wp_at_succ
theorem timed_sw (k : Int) (W : World) {b : Bool} (h : timedK k = b) : Calls Tryz.prog 80 #[.int .i64 k] W fun e w' => e = .returned (.bool b) /\ W = w' := (aligned_any k W).mono fun _ _ q => ⟨by rw [q.1, h], q.2⟩
theorem right09_sw (a b : Int) (W : World) {r : Bool} (h : rightS a b = r) : Calls Tryz.prog 111 #[.agg #[.int .i64 a, .int .i64 b]] W fun e w' => e = .returned (.bool r) /\ Below W.heap.size W w' := (right09_any a b W).mono fun _ _ q => ⟨by rw [q.1, h], q.2⟩
theorem rightS_lt {a b : Int} (h : rightS a b = true) : a < b := by
 unfold rightS at h;rw [Bool.and_eq_true, Bool.and_eq_true, decide_eq_true_eq, decide_eq_true_eq] at h;exact h.2.1
set_option maxHeartbeats 4000000 in
set_option maxRecDepth 100000 in
theorem placed_any (d : Dv) (T : List Ti) (l : List Nt) (x : Nt) (w : World) (hT : TiersR w w.heap.size d.ta d.tn T) (hl : NotesR w w.heap.size d.na d.nn l) (hn : d.nn <= 9223372036854775807) (ht : 0 <= x.tier /\ x.tier < (d.tn : Int)) :
  Calls Tryz.prog 83 #[docV d, noteV x] w fun e w' => ∃ r : Int, e = .returned (.int .i64 r) /\ (r = 0 -> PlOk T l x) /\ Below w.heap.size w w' := by
 have HT := hI hT;have HG := hI fun (W : World) (hW : Below w.heap.size w W) => refGet_any d l x.parent W (hl.on hW) hn
 obtain ⟨j, hj⟩ : ∃ j : Nat, x.tier = (j : Int) := ⟨x.tier.toNat, by omega⟩;have hjn : j < d.tn := by omega
 obtain ⟨ad, t, hta, hab, htj, _, hcells⟩ := hT.at_ hjn;have htt : tierT T x.tier = t := by unfold tierT; rw [hj, Int.toNat_natCast, List.getD, htj]; rfl
 obtain ⟨q0, q1, q2, q3⟩ := hcells w bR
 have HP : Hid (PlOk T l x = ((((t.kind = 0 /\ x.parent = 0) ∨ (t.kind ≠ 0 /\ ∃ p, getN l x.parent = some p /\ p.tier = t.parent)) /\ (timedK t.kind = true -> x.at1 < x.at2) /\ (timedK t.kind = false -> x.at1 = 0 /\ x.at2 = 0) /\ (x.rank = 0 ∨ t.kind = 3)))) := by
  show _ = _;unfold PlOk;rw [htt]
 rw [HP.out];unfold docV at HG;unfold docV noteV;obtain ⟨rid, name, len, day, sa, sn, sc, ta, tn, tc, na, nn, nc⟩ := d;obtain ⟨nid, tier, par, at1, at2, rk, tx⟩ := x;obtain ⟨tnm, kd, rl, pr⟩ := t;simp only at *;subst hj hta;clear hT hl ht htj htt HP;have hjz : (j : Int) < (tn : Int) := by omega
 have hjA : (0 : Int) <= (j : Int) := by omega
 go_enter Tryz.func83, Tryz.ntmps83
 go_upto_region 1 with fail
 obtain ⟨W2, hW2⟩ : ∃ W2, ((w.alloc (.cells #[.int .i64 rid, .string name, .int .i64 len, .int .i64 day, .slice sa sn sc, .slice (some ad) tn tc, .slice na nn nc] 38)).alloc (.cells #[.int .i64 nid, .int .i64 (j : Int), .int .i64 par, .int .i64 at1, .int .i64 at2, .int .i64 rk, .string tx] 58)) = W2 := ⟨_, rfl⟩;have HB2 : Hid (Below w.heap.size w W2) := by rw [<- hW2]; exact ((bR.alloc (by simp <;> omega) _).alloc (by simp <;> omega) _)
 have hz2 : W2.heap.size = w.heap.size + 2 := by rw [<- hW2]; simp
 have HC2 : Hid (∀ X, Below W2.heap.size W2 X -> X.rangeAt (w.heap.size) 0 [.int .i64 rid, .string name, .int .i64 len, .int .i64 day, .slice sa sn sc, .slice (some ad) tn tc, .slice na nn nc] /\ X.rangeAt (w.heap.size + 1) 0 [.int .i64 nid, .int .i64 (j : Int), .int .i64 par, .int .i64 at1, .int .i64 at2, .int .i64 rk, .string tx]) := fun X hX => by
  refine ⟨?_, ?_⟩
  ·refine range_below hX (by omega) fun j v hv => ?_
   rw [<- hW2, Nat.zero_add]; rw [World.cell?_alloc_lt _ _ _ (by simp <;> omega)]; rw [World.cell?_alloc_at _ _ _ _ (by simp), <- hv, <- List.getElem?_toArray]; try rfl
  ·refine range_below hX (by omega) fun j v hv => ?_
   rw [<- hW2, Nat.zero_add]; rw [World.cell?_alloc_at _ _ _ _ (by simp), <- hv, <- List.getElem?_toArray]; try rfl
 (try rw [hW2])
 clear hW2;clear q0 q1 q2 q3;obtain ⟨q0, q1, q2, q3⟩ := hcells W2 HB2.out;obtain ⟨g0, g1⟩ := HC2.out W2 bR;obtain ⟨k0, k1, k2, k3, k4, k5, k6⟩ := range7 g0;obtain ⟨m0, m1, m2, m3, m4, m5, m6⟩ := range7 g1;clear g0 g1 hcells;go_upto_region 2 with fail
 obtain ⟨W3, hW30⟩ : ∃ W3, (W2.alloc (.cells #[.string tnm, .int .i64 kd, .int .i64 rl, .int .i64 pr] 86)) = W3 := ⟨_, rfl⟩;have HB30 : Hid (Below W2.heap.size W2 W3) := by rw [<- hW30]; exact (bR.alloc (by simp <;> omega) _)
 have hz30 : W3.heap.size = W2.heap.size + 1 := by rw [<- hW30]; simp
 have HC30 : Hid (∀ X, Below W3.heap.size W3 X -> X.rangeAt (W2.heap.size) 0 [.string tnm, .int .i64 kd, .int .i64 rl, .int .i64 pr]) := fun X hX => by
  refine range_below hX (by omega) fun j v hv => ?_
  rw [<- hW30, Nat.zero_add]; rw [World.cell?_alloc_at _ _ _ _ (by simp), <- hv, <- List.getElem?_toArray]; try rfl
 (try rw [hW30])
 clear hW30;have HB3 : Hid (Below w.heap.size w W3) := HB2.out.trans (HB30.out.mono HB2.out.size)
 have HC3 : Hid (∀ X, Below W3.heap.size W3 X -> X.rangeAt w.heap.size 0 [.int .i64 rid, .string name, .int .i64 len, .int .i64 day, .slice sa sn sc, .slice (some ad) tn tc, .slice na nn nc] /\ X.rangeAt (w.heap.size + 1) 0 [.int .i64 nid, .int .i64 (j : Int), .int .i64 par, .int .i64 at1, .int .i64 at2, .int .i64 rk, .string tx] /\ X.rangeAt (w.heap.size + 2) 0 [.string tnm, .int .i64 kd, .int .i64 rl, .int .i64 pr]) := fun X hX => by
  obtain ⟨g0, g1⟩ := HC2.out X (HB30.out.trans (hX.mono HB30.out.size));exact ⟨g0, g1, by rw [<- hz2]; exact HC30.out X hX⟩
 clear q0 q1 q2 q3 k0 k1 k2 k3 k4 k5 k6 m0 m1 m2 m3 m4 m5 m6;obtain ⟨g0, g1, g2⟩ := HC3.out W3 bR;obtain ⟨k0, k1, k2, k3, k4, k5, k6⟩ := range7 g0;obtain ⟨m0, m1, m2, m3, m4, m5, m6⟩ := range7 g1;have t0 : W3.cell? ⟨w.heap.size + 2, 0, none⟩ = some (.string tnm) := g2 0 _ rfl;have t1 : W3.cell? ⟨w.heap.size + 2, 1, none⟩ = some (.int .i64 kd) := g2 1 _ rfl;have t2 : W3.cell? ⟨w.heap.size + 2, 2, none⟩ = some (.int .i64 rl) := g2 2 _ rfl;have t3 : W3.cell? ⟨w.heap.size + 2, 3, none⟩ = some (.int .i64 pr) := g2 3 _ rfl;have HG3 := hI (HG.out W3 HB3.out);unfold getV at HG3;obtain ⟨px, hpx⟩ : ∃ px, (getN l par).getD nt0 = px := ⟨_, rfl⟩;obtain ⟨ok, hok⟩ : ∃ ok, (getN l par).isSome = ok := ⟨_, rfl⟩
 have HOK : Hid (ok = true -> getN l par = some px) := fun h => by
  rw [<- hok] at h
  cases hg : getN l par with
  | none => rw [hg] at h; cases h
  | some y => rw [hg] at hpx; rw [<- hpx]; rfl
 rw [hpx, hok] at HG3;unfold noteV at HG3;clear hpx hok HG g0 g1 g2;go_wp2_with fail
 refine HG3.out.mono ?_;rintro e w1 ⟨rfl, hb1⟩;have HB1 : Hid (Below W3.heap.size W3 w1) := hb1;clear hb1 HG3 k0 k1 k2 k3 k4 k5 k6 m0 m1 m2 m3 m4 m5 m6 t0 t1 t2 t3;go_upto_region 3 with fail
 obtain ⟨W4, hW4⟩ : ∃ W4, (w1.alloc (.cells #[.int .i64 px.nid, .int .i64 px.tier, .int .i64 px.parent, .int .i64 px.at1, .int .i64 px.at2, .int .i64 px.rank, .string px.text] 58)) = W4 := ⟨_, rfl⟩;have HB4 : Hid (Below w1.heap.size w1 W4) := by rw [<- hW4]; exact (bR.alloc (by simp <;> omega) _)
 have hz4 : W4.heap.size = w1.heap.size + 1 := by rw [<- hW4]; simp
 have HC4 : Hid (∀ X, Below W4.heap.size W4 X -> X.rangeAt (w1.heap.size) 0 [.int .i64 px.nid, .int .i64 px.tier, .int .i64 px.parent, .int .i64 px.at1, .int .i64 px.at2, .int .i64 px.rank, .string px.text]) := fun X hX => by
  refine range_below hX (by omega) fun j v hv => ?_
  rw [<- hW4, Nat.zero_add]; rw [World.cell?_alloc_at _ _ _ _ (by simp), <- hv, <- List.getElem?_toArray]; try rfl
 (try rw [hW4])
 clear hW4;have HB34 : Hid (Below W3.heap.size W3 W4) := HB1.out.trans (HB4.out.mono HB1.out.size);have HBW : Hid (Below w.heap.size w W4) := HB3.out.trans (HB34.out.mono HB3.out.size);obtain ⟨g0, g1, g2⟩ := HC3.out W4 HB34.out;have g3 := HC4.out W4 bR;have k2 : W4.cell? ⟨w.heap.size, 2, none⟩ = some (.int .i64 len) := g0 2 _ rfl;have m2 : W4.cell? ⟨w.heap.size + 1, 2, none⟩ = some (.int .i64 par) := g1 2 _ rfl;have m3 : W4.cell? ⟨w.heap.size + 1, 3, none⟩ = some (.int .i64 at1) := g1 3 _ rfl;have m4 : W4.cell? ⟨w.heap.size + 1, 4, none⟩ = some (.int .i64 at2) := g1 4 _ rfl;have m5 : W4.cell? ⟨w.heap.size + 1, 5, none⟩ = some (.int .i64 rk) := g1 5 _ rfl;have t1 : W4.cell? ⟨w.heap.size + 2, 1, none⟩ = some (.int .i64 kd) := g2 1 _ rfl;have t3 : W4.cell? ⟨w.heap.size + 2, 3, none⟩ = some (.int .i64 pr) := g2 3 _ rfl;have p1 : W4.cell? ⟨w1.heap.size, 1, none⟩ = some (.int .i64 px.tier) := g3 1 _ rfl;have p3 : W4.cell? ⟨w1.heap.size, 3, none⟩ = some (.int .i64 px.at1) := g3 3 _ rfl;have p4 : W4.cell? ⟨w1.heap.size, 4, none⟩ = some (.int .i64 px.at2) := g3 4 _ rfl;clear g0 g1 g2 g3;by_cases z0 : kd = 0
 ·have b0 : (kd == 0) = true := beq_iff_eq.2 z0;have b0' : (kd != 0) = false := by rw [bne_eq_false_iff_eq]; exact z0
  have Z0 := hI z0;by_cases y0 : par = 0
  ·have c0 : (par != 0) = false := by rw [bne_eq_false_iff_eq]; exact y0
   have HA : Hid ((kd = 0 /\ par = 0) ∨ (kd ≠ 0 /\ ∃ p, getN l par = some p /\ p.tier = pr)) := .inl ⟨z0, y0⟩;clear z0 y0;go_upto_region 5 with fail
   cases htk : timedK kd with
   | true =>
    have HAL := hI fun W => timed_sw kd W htk
    cases hrs : rightS at1 at2 with
    | false =>
     have HRS := hI fun W => right09_sw at1 at2 W hrs
     clear htk hrs;go_wp2_with (first | (go_at_call 80; with_reducible refine (HAL.out _).mono ?_; rintro e w5 ⟨rfl, rfl⟩) | (go_at_call 111; with_reducible refine (HRS.out _).mono ?_; rintro e w6 ⟨rfl, hb6⟩))
     have HBW6 : Hid (Below w.heap.size w w6) := HBW.out.trans (hb6.mono HBW.out.size);go_ret;exact ⟨12, rfl, fun h => absurd h (by decide), HBW6.out⟩
    | true =>
     have HRS := hI fun W => right09_sw at1 at2 W hrs
     have HS1 : Hid (timedK kd = true -> at1 < at2) := fun _ => rightS_lt hrs
     have HS2 : Hid (timedK kd = false -> at1 = 0 /\ at2 = 0) := fun h => by rw [htk] at h; cases h
     clear htk hrs;go_upto_region 7 with (first | (go_at_call 80; with_reducible refine (HAL.out _).mono ?_; rintro e w5 ⟨rfl, rfl⟩) | (go_at_call 111; with_reducible refine (HRS.out _).mono ?_; rintro e w6 ⟨rfl, hb6⟩))
     have HB6 : Hid (Below W4.heap.size W4 w6) := hb6;have HBW6 : Hid (Below w.heap.size w w6) := HBW.out.trans (hb6.mono HBW.out.size);clear hb6 k2 m2 m3 m4 m5 t1 t3 p1 p3 p4;obtain ⟨g0, g1, g2⟩ := HC3.out w6 (HB34.out.trans (HB6.out.mono HB34.out.size));have g3 := HC4.out w6 HB6.out;have k2 : w6.cell? ⟨w.heap.size, 2, none⟩ = some (.int .i64 len) := g0 2 _ rfl;have m2 : w6.cell? ⟨w.heap.size + 1, 2, none⟩ = some (.int .i64 par) := g1 2 _ rfl;have m3 : w6.cell? ⟨w.heap.size + 1, 3, none⟩ = some (.int .i64 at1) := g1 3 _ rfl;have m4 : w6.cell? ⟨w.heap.size + 1, 4, none⟩ = some (.int .i64 at2) := g1 4 _ rfl;have m5 : w6.cell? ⟨w.heap.size + 1, 5, none⟩ = some (.int .i64 rk) := g1 5 _ rfl;have t1 : w6.cell? ⟨w.heap.size + 2, 1, none⟩ = some (.int .i64 kd) := g2 1 _ rfl;have t3 : w6.cell? ⟨w.heap.size + 2, 3, none⟩ = some (.int .i64 pr) := g2 3 _ rfl;have p1 : w6.cell? ⟨w1.heap.size, 1, none⟩ = some (.int .i64 px.tier) := g3 1 _ rfl;have p3 : w6.cell? ⟨w1.heap.size, 3, none⟩ = some (.int .i64 px.at1) := g3 3 _ rfl;have p4 : w6.cell? ⟨w1.heap.size, 4, none⟩ = some (.int .i64 px.at2) := g3 4 _ rfl;clear g0 g1 g2 g3;by_cases u0 : len < at2
     ·have u1 : decide (at2 > len) = true := decide_eq_true u0;have u1' : decide (len < at2) = true := decide_eq_true u0;clear u0;go_wp2;go_ret;exact ⟨12, rfl, fun h => absurd h (by decide), HBW6.out⟩
     ·have u1 : decide (at2 > len) = false := decide_eq_false u0;have u1' : decide (len < at2) = false := decide_eq_false u0;clear u0;go_upto_region 11 with (go_at_call 80; with_reducible refine (HAL.out _).mono ?_; rintro e w5 ⟨rfl, rfl⟩)
      by_cases n0 : rk < 0
      ·have n1 : decide (rk < 0) = true := decide_eq_true n0;go_wp2;go_ret;exact ⟨1, rfl, fun h => absurd h (by decide), HBW6.out⟩
      ·have n1 : decide (rk < 0) = false := decide_eq_false n0;by_cases n2 : rk = 0
       ·have n3 : (rk != 0) = false := by rw [bne_eq_false_iff_eq]; exact n2
        have HZ : Hid (rk = 0 ∨ kd = 3) := .inl n2;clear n2 n0;go_wp2;go_ret;exact ⟨0, rfl, fun _ => ⟨HA.out, HS1.out, HS2.out, HZ.out⟩, HBW6.out⟩
       ·have n3 : (rk != 0) = true := bne_iff_ne.2 n2;by_cases n4 : kd = 3
        ·have n5 : (kd != 3) = false := by rw [bne_eq_false_iff_eq]; exact n4
         have HZ : Hid (rk = 0 ∨ kd = 3) := .inr n4;clear n2 n0 n4;go_wp2;go_ret;exact ⟨0, rfl, fun _ => ⟨HA.out, HS1.out, HS2.out, HZ.out⟩, HBW6.out⟩
        ·have n5 : (kd != 3) = true := bne_iff_ne.2 n4;clear n2 n0 n4;go_wp2;go_ret;exact ⟨1, rfl, fun h => absurd h (by decide), HBW6.out⟩
   | false =>
    exfalso
    rw [Z0.out] at htk;exact absurd htk (by decide)
  ·have c0 : (par != 0) = true := bne_iff_ne.2 y0;clear z0 y0;go_wp2;go_ret;exact ⟨13, rfl, fun h => absurd h (by decide), HBW.out⟩
 ·have b0 : (kd == 0) = false := beq_eq_false_iff_ne.2 z0;have b0' : (kd != 0) = true := bne_iff_ne.2 z0
  cases ok with
  | false =>
   clear z0;go_wp2;go_ret;exact ⟨13, rfl, fun h => absurd h (by decide), HBW.out⟩
  | true =>
   by_cases y0 : px.tier = pr
   ·have c0 : (px.tier != pr) = false := by rw [bne_eq_false_iff_eq]; exact y0
    have HA : Hid ((kd = 0 /\ par = 0) ∨ (kd ≠ 0 /\ ∃ p, getN l par = some p /\ p.tier = pr)) := .inr ⟨z0, px, HOK.out rfl, y0⟩;clear z0 y0;go_upto_region 5 with fail
    cases htk : timedK kd with
    | true =>
     have HAL := hI fun W => timed_sw kd W htk
     cases hrs : rightS at1 at2 with
     | false =>
      have HRS := hI fun W => right09_sw at1 at2 W hrs
      clear htk hrs;go_wp2_with (first | (go_at_call 80; with_reducible refine (HAL.out _).mono ?_; rintro e w5 ⟨rfl, rfl⟩) | (go_at_call 111; with_reducible refine (HRS.out _).mono ?_; rintro e w6 ⟨rfl, hb6⟩))
      have HBW6 : Hid (Below w.heap.size w w6) := HBW.out.trans (hb6.mono HBW.out.size);go_ret;exact ⟨12, rfl, fun h => absurd h (by decide), HBW6.out⟩
     | true =>
      have HRS := hI fun W => right09_sw at1 at2 W hrs
      have HS1 : Hid (timedK kd = true -> at1 < at2) := fun _ => rightS_lt hrs
      have HS2 : Hid (timedK kd = false -> at1 = 0 /\ at2 = 0) := fun h => by rw [htk] at h; cases h
      clear htk hrs;go_upto_region 7 with (first | (go_at_call 80; with_reducible refine (HAL.out _).mono ?_; rintro e w5 ⟨rfl, rfl⟩) | (go_at_call 111; with_reducible refine (HRS.out _).mono ?_; rintro e w6 ⟨rfl, hb6⟩))
      have HB6 : Hid (Below W4.heap.size W4 w6) := hb6;have HBW6 : Hid (Below w.heap.size w w6) := HBW.out.trans (hb6.mono HBW.out.size);clear hb6 k2 m2 m3 m4 m5 t1 t3 p1 p3 p4;obtain ⟨g0, g1, g2⟩ := HC3.out w6 (HB34.out.trans (HB6.out.mono HB34.out.size));have g3 := HC4.out w6 HB6.out;have k2 : w6.cell? ⟨w.heap.size, 2, none⟩ = some (.int .i64 len) := g0 2 _ rfl;have m2 : w6.cell? ⟨w.heap.size + 1, 2, none⟩ = some (.int .i64 par) := g1 2 _ rfl;have m3 : w6.cell? ⟨w.heap.size + 1, 3, none⟩ = some (.int .i64 at1) := g1 3 _ rfl;have m4 : w6.cell? ⟨w.heap.size + 1, 4, none⟩ = some (.int .i64 at2) := g1 4 _ rfl;have m5 : w6.cell? ⟨w.heap.size + 1, 5, none⟩ = some (.int .i64 rk) := g1 5 _ rfl;have t1 : w6.cell? ⟨w.heap.size + 2, 1, none⟩ = some (.int .i64 kd) := g2 1 _ rfl;have t3 : w6.cell? ⟨w.heap.size + 2, 3, none⟩ = some (.int .i64 pr) := g2 3 _ rfl;have p1 : w6.cell? ⟨w1.heap.size, 1, none⟩ = some (.int .i64 px.tier) := g3 1 _ rfl;have p3 : w6.cell? ⟨w1.heap.size, 3, none⟩ = some (.int .i64 px.at1) := g3 3 _ rfl;have p4 : w6.cell? ⟨w1.heap.size, 4, none⟩ = some (.int .i64 px.at2) := g3 4 _ rfl;clear g0 g1 g2 g3;by_cases u0 : at1 < px.at1
      ·have u1 : decide (at1 < px.at1) = true := decide_eq_true u0;clear u0;go_wp2_with (go_at_call 80; with_reducible refine (HAL.out _).mono ?_; rintro e w5 ⟨rfl, rfl⟩)
       go_ret;exact ⟨12, rfl, fun h => absurd h (by decide), HBW6.out⟩
      ·have u1 : decide (at1 < px.at1) = false := decide_eq_false u0;by_cases v0 : px.at2 < at2
       ·have v1 : decide (at2 > px.at2) = true := decide_eq_true v0;have v1' : decide (px.at2 < at2) = true := decide_eq_true v0;clear u0 v0;go_wp2_with (go_at_call 80; with_reducible refine (HAL.out _).mono ?_; rintro e w5 ⟨rfl, rfl⟩)
        go_ret;exact ⟨12, rfl, fun h => absurd h (by decide), HBW6.out⟩
       ·have v1 : decide (at2 > px.at2) = false := decide_eq_false v0;have v1' : decide (px.at2 < at2) = false := decide_eq_false v0;clear u0 v0;go_upto_region 11 with (go_at_call 80; with_reducible refine (HAL.out _).mono ?_; rintro e w5 ⟨rfl, rfl⟩)
        by_cases n0 : rk < 0
        ·have n1 : decide (rk < 0) = true := decide_eq_true n0;go_wp2;go_ret;exact ⟨1, rfl, fun h => absurd h (by decide), HBW6.out⟩
        ·have n1 : decide (rk < 0) = false := decide_eq_false n0;by_cases n2 : rk = 0
         ·have n3 : (rk != 0) = false := by rw [bne_eq_false_iff_eq]; exact n2
          have HZ : Hid (rk = 0 ∨ kd = 3) := .inl n2;clear n2 n0;go_wp2;go_ret;exact ⟨0, rfl, fun _ => ⟨HA.out, HS1.out, HS2.out, HZ.out⟩, HBW6.out⟩
         ·have n3 : (rk != 0) = true := bne_iff_ne.2 n2;by_cases n4 : kd = 3
          ·have n5 : (kd != 3) = false := by rw [bne_eq_false_iff_eq]; exact n4
           have HZ : Hid (rk = 0 ∨ kd = 3) := .inr n4;clear n2 n0 n4;go_wp2;go_ret;exact ⟨0, rfl, fun _ => ⟨HA.out, HS1.out, HS2.out, HZ.out⟩, HBW6.out⟩
          ·have n5 : (kd != 3) = true := bne_iff_ne.2 n4;clear n2 n0 n4;go_wp2;go_ret;exact ⟨1, rfl, fun h => absurd h (by decide), HBW6.out⟩
    | false =>
     have HAL := hI fun W => timed_sw kd W htk
     have HES := hI fun W => eq_span at1 at2 W
     have HS1 : Hid (timedK kd = true -> at1 < at2) := fun h => by rw [htk] at h; cases h
     by_cases s1 : at1 = 0
     ·have e1 : (at1 == 0) = true := beq_iff_eq.2 s1;by_cases s2 : at2 = 0
      ·have e2 : (at2 == 0) = true := beq_iff_eq.2 s2;have HS2 : Hid (timedK kd = false -> at1 = 0 /\ at2 = 0) := fun _ => ⟨s1, s2⟩
       have hes : ∀ W, (Op.equalIn 10000 56 (.agg #[.int .i64 at1, .int .i64 at2]) (.agg #[.int .i64 0, .int .i64 0])).run Tryz.prog W = .ok true W := fun W => by rw [HES.out W, e1, e2]; rfl
       clear htk s1 s2 e1 e2;have hg := Tryz.eqGuardType56;go_upto_region 11 with (go_at_call 80; with_reducible refine (HAL.out _).mono ?_; rintro e w5 ⟨rfl, rfl⟩)
       by_cases n0 : rk < 0
       ·have n1 : decide (rk < 0) = true := decide_eq_true n0;go_wp2;go_ret;exact ⟨1, rfl, fun h => absurd h (by decide), HBW.out⟩
       ·have n1 : decide (rk < 0) = false := decide_eq_false n0;by_cases n2 : rk = 0
        ·have n3 : (rk != 0) = false := by rw [bne_eq_false_iff_eq]; exact n2
         have HZ : Hid (rk = 0 ∨ kd = 3) := .inl n2;clear n2 n0;go_wp2;go_ret;exact ⟨0, rfl, fun _ => ⟨HA.out, HS1.out, HS2.out, HZ.out⟩, HBW.out⟩
        ·have n3 : (rk != 0) = true := bne_iff_ne.2 n2;by_cases n4 : kd = 3
         ·have n5 : (kd != 3) = false := by rw [bne_eq_false_iff_eq]; exact n4
          have HZ : Hid (rk = 0 ∨ kd = 3) := .inr n4;clear n2 n0 n4;go_wp2;go_ret;exact ⟨0, rfl, fun _ => ⟨HA.out, HS1.out, HS2.out, HZ.out⟩, HBW.out⟩
         ·have n5 : (kd != 3) = true := bne_iff_ne.2 n4;clear n2 n0 n4;go_wp2;go_ret;exact ⟨1, rfl, fun h => absurd h (by decide), HBW.out⟩
      ·have e2 : (at2 == 0) = false := beq_eq_false_iff_ne.2 s2;have hes : ∀ W, (Op.equalIn 10000 56 (.agg #[.int .i64 at1, .int .i64 at2]) (.agg #[.int .i64 0, .int .i64 0])).run Tryz.prog W = .ok false W := fun W => by rw [HES.out W, e1, e2]; rfl
       clear htk;have hg := Tryz.eqGuardType56;go_wp2_with (go_at_call 80; with_reducible refine (HAL.out _).mono ?_; rintro e w5 ⟨rfl, rfl⟩)
       go_ret;exact ⟨12, rfl, fun h => absurd h (by decide), HBW.out⟩
     ·have e1 : (at1 == 0) = false := beq_eq_false_iff_ne.2 s1;have hes : ∀ W, (Op.equalIn 10000 56 (.agg #[.int .i64 at1, .int .i64 at2]) (.agg #[.int .i64 0, .int .i64 0])).run Tryz.prog W = .ok false W := fun W => by rw [HES.out W, e1]; rfl
      clear htk;have hg := Tryz.eqGuardType56;go_wp2_with (go_at_call 80; with_reducible refine (HAL.out _).mono ?_; rintro e w5 ⟨rfl, rfl⟩)
      go_ret;exact ⟨12, rfl, fun h => absurd h (by decide), HBW.out⟩
   ·have c0 : (px.tier != pr) = true := bne_iff_ne.2 y0;clear z0 y0;go_wp2;go_ret;exact ⟨13, rfl, fun h => absurd h (by decide), HBW.out⟩
theorem sibF_next {l : List Nt} {tier parent : Int} {i : Nat} {x : Nt} (hx : l[i]? = some x) : sibF (l.take (i + 1)) tier parent = sibF (l.take i) tier parent ++ (if x.tier = tier /\ x.parent = parent then [x] else []) := by
 unfold sibF;rw [take_at2 hx, List.filter_append, List.filter_cons];simp
theorem sibF_len {l : List Nt} {tier parent : Int} : (sibF l tier parent).length <= l.length := List.length_filter_le _ _
set_option maxHeartbeats 2000000 in
set_option maxRecDepth 100000 in
theorem siblings_any (d : Dv) (l : List Nt) (tier parent : Int) (w : World) (hl : NotesR w w.heap.size d.na d.nn l) (hn : d.nn <= 1000000) :
  Calls Tryz.prog 84 #[docV d, .int .i64 tier, .int .i64 parent] w fun e w' => ∃ v, e = .returned v /\ OwnR encN 7 58 w' w.heap.size v (sibF l tier parent) /\ Below w.heap.size w w' := by
 have HL := hI hl;have HLN := hI hl.len;clear hl;unfold docV;obtain ⟨rid, name, len, day, sa, sn, sc, ta, tn, tc, na, nn, nc⟩ := d;simp only at HL HLN hn |-;go_enter Tryz.func84, Tryz.ntmps84
 go_upto_region 1 with fail
 obtain ⟨W0, hW0⟩ : ∃ W0, (w.alloc (.cells #[.int .i64 rid, .string name, .int .i64 len, .int .i64 day, .slice sa sn sc, .slice ta tn tc, .slice na nn nc] 38)) = W0 := ⟨_, rfl⟩;have HB0 : Hid (Below w.heap.size w W0) := by rw [<- hW0]; exact (bR.alloc (by simp <;> omega) _)
 have hz0 : W0.heap.size = w.heap.size + 1 := by rw [<- hW0]; simp
 have HC0 : Hid (∀ X, Below W0.heap.size W0 X -> X.rangeAt (w.heap.size) 0 [.int .i64 rid, .string name, .int .i64 len, .int .i64 day, .slice sa sn sc, .slice ta tn tc, .slice na nn nc]) := fun X hX => by
  refine range_below hX (by omega) fun j v hv => ?_
  rw [<- hW0, Nat.zero_add]; rw [World.cell?_alloc_at _ _ _ _ (by simp), <- hv, <- List.getElem?_toArray]; try rfl
 (try rw [hW0])
 clear hW0;have HK6 : Hid (∀ X, Below (w.heap.size + 1) W0 X -> X.cell? ⟨w.heap.size, 6, none⟩ = some (.slice na nn nc)) := fun X hX => HC0.out X (by rw [hz0]; exact hX) 6 _ rfl
 have hown0 := World.ownsRow_made (base := w.heap.size + 1) (e := 58) (size := 7) W0 #[] 0 (by omega) (by unfold maxLen; omega) (by simp);rw [hz0] at hown0;have hown := hI hown0;clear hown0;have HBA : Hid (Below (w.heap.size + 1) W0 (W0.alloc (.cells #[] 58))) := bR.alloc (by omega) _;go_wp2_with fail
 go_loopw [7, 8] (fun v7 v8 wr => ∃ i : Nat, i <= nn /\ v8 = .int .i64 i /\ Hid (OwnR encN 7 58 wr (w.heap.size + 1) v7 (sibF (l.take i) tier parent)) /\ Hid (Below (w.heap.size + 1) W0 wr)) (fun _ v8 _ => nn - (intOf v8).toNat)
 case atStart => exact ⟨0, Nat.zero_le _, rfl, (by rw [List.take_zero]; exact hown.out), HBA.out⟩
 case round =>
  clear hown HBA;obtain ⟨i, hi, rfl, HO, HB1⟩ := hrel;obtain ⟨w0, hw0⟩ : ∃ w0, wr = w0 := ⟨_, rfl⟩;rw [hw0] at HO HB1 |-;clear hw0;have HBW : Hid (Below w.heap.size w w0) := HB0.out.trans (HB1.out.mono (by omega));have k6 := HK6.out w0 HB1.out;by_cases hlt : i < nn
  ·have hiz : (i : Int) < (nn : Int) := by omega
   have hiA : (0 : Int) <= (i : Int) := by omega
   obtain ⟨ad, x, rfl, hab, hx, hcells⟩ := HL.out.at_ hlt;obtain ⟨q0, q1, q2, q3, q4, q5, q6⟩ := hcells w0 HBW.out;have HI := hI hlt;have HNX := hI (sibF_next (tier := tier) (parent := parent) hx);have hsz := HB1.out.size;have hlls : (sibF (l.take i) tier parent).length <= i := Nat.le_trans sibF_len (by rw [List.length_take]; omega);obtain ⟨ll, hlq⟩ : ∃ ll, sibF (l.take i) tier parent = ll := ⟨_, rfl⟩;rw [hlq] at HO HNX hlls;have hi1 : i + 1 <= nn := hlt;clear hx hcells hlq;by_cases ht0 : x.tier = tier
   ·have hbt : (x.tier == tier) = true := beq_iff_eq.2 ht0;have ht1 := hI ht0;clear ht0;by_cases hp0 : x.parent = parent
    ·have hbp : (x.parent == parent) = true := beq_iff_eq.2 hp0;have HNX2 : Hid (sibF (l.take (i + 1)) tier parent = ll ++ [x]) := by show _ = _; rw [HNX.out, if_pos ⟨ht1.out, hp0⟩]
     clear hp0 HNX;go_wp2_with (at_builtin; refine wpList_appN rfl (.tmp 35) (.tmp 41) 36 rfl (w.heap.size + 1) 58 7 64 (noteV nt0) info_note rfl (by omega) Tryz.underlying36 rfl HO.out rfl rfl (by simp [Value.oneCell']) (by omega) (by omega) (by omega) ?_; rintro v7' w4 hown7 hb7)
     have HO3 : Hid (OwnR encN 7 58 w4 (w.heap.size + 1) v7' (sibF (l.take (i + 1)) tier parent)) := by
      show OwnR _ _ _ _ _ _ _;rw [HNX2.out];exact OwnR.snoc hown7
     have HB3 : Hid (Below (w.heap.size + 1) W0 w4) := HB1.out.trans (hb7.mono (Nat.le_refl _));clear HNX2 hown7 hb7;go_wp2;go_roundw
     case rel => exact ⟨i + 1, hi1, by go_num, HO3, HB3⟩
     case measure => have := HI.out; simp [intOf]; omega
    ·have hbp : (x.parent == parent) = false := beq_eq_false_iff_ne.2 hp0;have HNX2 : Hid (sibF (l.take (i + 1)) tier parent = ll) := by show _ = _; rw [HNX.out, if_neg fun h => hp0 h.2, List.append_nil]
     clear hp0 HNX;go_wp2;go_roundw
     case rel => exact ⟨i + 1, hi1, by go_num, by rw [HNX2.out]; exact HO, HB1⟩
     case measure => have := HI.out; simp [intOf]; omega
   ·have hbt : (x.tier == tier) = false := beq_eq_false_iff_ne.2 ht0;have HNX2 : Hid (sibF (l.take (i + 1)) tier parent = ll) := by show _ = _; rw [HNX.out, if_neg fun h => ht0 h.1, List.append_nil]
    clear ht0 HNX;go_wp2;go_roundw
    case rel => exact ⟨i + 1, hi1, by go_num, by rw [HNX2.out]; exact HO, HB1⟩
    case measure => have := HI.out; simp [intOf]; omega
  ·obtain rfl : nn = i := by omega
   have hiz : ¬ (nn : Int) < (nn : Int) := by omega
   have HF : Hid (OwnR encN 7 58 w0 w.heap.size u7 (sibF l tier parent)) := by
    have h := HO.out;rw [List.take_of_length_le (by rw [HLN.out]; exact Nat.le_refl _)] at h;exact own_base h (by omega)
   go_wp2;go_ret;exact ⟨_, rfl, HF.out, HBW.out⟩
set_option maxHeartbeats 2000000 in
set_option maxRecDepth 100000 in
theorem overlap_any (A : Option Addr) (n c : Nat) (l : List Nt) (w : World) (hl : NotesR w w.heap.size A n l) (hn : n <= 1000000) :
  Calls Tryz.prog 85 #[.slice A n c] w (BoolIf (fun b => b = false -> NoOver l) w) := by
 have HL := hI hl;have HLN := hI hl.len;clear hl;go_enter Tryz.func85, Tryz.ntmps85
 go_wp2_with fail
 go_loopw [3] (fun v3 wr => ∃ i : Nat, i <= n /\ v3 = .int .i64 i /\ Hid (∀ (j k : Nat) (x y : Nt), j < i -> k < j -> l[j]? = some x -> l[k]? = some y -> ¬ (x.at1 < y.at2 /\ y.at1 < x.at2)) /\ Hid (Below w.heap.size w wr)) (fun v3 _ => n - (intOf v3).toNat)
 case atStart => exact ⟨0, Nat.zero_le _, rfl, fun j k x y h => by omega, Below.refl _ _⟩
 case round =>
  obtain ⟨i, hi, rfl, HP, HB0⟩ := hrel;obtain ⟨w0, hw0⟩ : ∃ w0, wr = w0 := ⟨_, rfl⟩;rw [hw0] at HB0 |-;clear hw0;by_cases hlt : i < n
  ·have hiz : (i : Int) < (n : Int) := by omega
   have hiA : (0 : Int) <= (i : Int) := by omega
   have HI := hI hlt;go_wp2_with fail
   go_loopw [4] (fun v4 wr => ∃ k : Nat, k <= i /\ v4 = .int .i64 k /\ Hid (∀ (j : Nat) (x y : Nt), j < k -> l[i]? = some x -> l[j]? = some y -> ¬ (x.at1 < y.at2 /\ y.at1 < x.at2)) /\ Hid (Below w.heap.size w wr)) (fun v4 _ => i - (intOf v4).toNat)
   case atStart => exact ⟨0, Nat.zero_le _, rfl, fun j x y h => by omega, HB0⟩
   case round =>
    clear HB0;obtain ⟨k, hk, rfl, HQ, HB0⟩ := hrel;obtain ⟨w1, hw1⟩ : ∃ w1, wr = w1 := ⟨_, rfl⟩;rw [hw1] at HB0 |-;clear hw1;by_cases hlk : k < i
    ·have hkz : (k : Int) < (i : Int) := by omega
     have hkn : (k : Int) < (n : Int) := by omega
     have hkA : (0 : Int) <= (k : Int) := by omega
     have HKI := hI hlk;obtain ⟨ad, x, e1, hab, hx, hcells⟩ := HL.out.at_ HI.out;obtain ⟨bd, y, e2, hbb, hy, hcells2⟩ := HL.out.at_ (k := k) (by have := HI.out; omega);rw [e1] at e2
     cases e1
     cases e2;obtain ⟨q0, q1, q2, q3, q4, q5, q6⟩ := hcells w1 HB0.out;obtain ⟨r0, r1, r2, r3, r4, r5, r6⟩ := hcells2 w1 HB0.out;have HX := hI hx;have HYY := hI hy;clear hx hy hcells hcells2
     have HNX : Hid (¬ (x.at1 < y.at2 /\ y.at1 < x.at2) -> ∀ (j : Nat) (x y : Nt), j < k + 1 -> l[i]? = some x -> l[j]? = some y -> ¬ (x.at1 < y.at2 /\ y.at1 < x.at2)) := fun h j x' y' hj hx' hy' => by
      by_cases e : j = k
      ·subst e;rw [HX.out] at hx';rw [HYY.out] at hy'
       cases hx'
       cases hy'
       exact h
      ·exact HQ.out j x' y' (by omega) hx' hy'
     by_cases h1 : x.at1 < y.at2
     ·have d1 : decide (x.at1 < y.at2) = true := decide_eq_true h1;by_cases h2 : y.at1 < x.at2
      ·have d2 : decide (y.at1 < x.at2) = true := decide_eq_true h2;go_wp2_with fail
       go_quiet (fail)
       have HB2 : Hid (Below w.heap.size w (w1.drewN nq)) := below_drewN HB0.out nq;go_wp2;go_ret;exact BoolIf.of true (fun h => by cases h) HB2.out
      ·have d2 : decide (y.at1 < x.at2) = false := decide_eq_false h2;have HQ2 := hI (HNX.out fun h => h2 h.2);clear HNX h1 h2;go_wp2_with fail
       go_quiet (fail)
       have HB2 : Hid (Below w.heap.size w (w1.drewN nq)) := below_drewN HB0.out nq;clear q0 q1 q2 q3 q4 q5 q6 r0 r1 r2 r3 r4 r5 r6 d1 d2;go_wp2;go_roundw
       case rel => exact ⟨k + 1, HKI.out, by go_num, HQ2, HB2⟩
       case measure => have := HKI.out; simp [intOf]; omega
     ·have d1 : decide (x.at1 < y.at2) = false := decide_eq_false h1;have HQ2 := hI (HNX.out fun h => h1 h.1);clear HNX h1;go_wp2_with fail
      go_quiet (fail)
      have HB2 : Hid (Below w.heap.size w (w1.drewN nq)) := below_drewN HB0.out nq;clear q0 q1 q2 q3 q4 q5 q6 r0 r1 r2 r3 r4 r5 r6 d1;go_wp2;go_roundw
      case rel => exact ⟨k + 1, HKI.out, by go_num, HQ2, HB2⟩
      case measure => have := HKI.out; simp [intOf]; omega
    ·obtain rfl : i = k := by omega
     have hkz : ¬ (i : Int) < (i : Int) := by omega
     have HP2 : Hid (∀ (j k : Nat) (x y : Nt), j < i + 1 -> k < j -> l[j]? = some x -> l[k]? = some y -> ¬ (x.at1 < y.at2 /\ y.at1 < x.at2)) := fun j k x y hj hkj hx hy => by
      by_cases e : j = i
      ·subst e; exact HQ.out k x y hkj hx hy
      ·exact HP.out j k x y (by omega) hkj hx hy
     go_wp2;go_roundw
     case rel => exact ⟨i + 1, HI.out, by go_num, HP2, HB0⟩
     case measure => have := HI.out; simp [intOf]; omega
  ·obtain rfl : n = i := by omega
   have hiz : ¬ (n : Int) < (n : Int) := by omega
   have HF : Hid (NoOver l) := fun i k x y hk hx hy => HP.out i k x y (by rw [<- HLN.out]; exact (List.getElem?_eq_some_iff.1 hx).1) hk hx hy
   go_wp2;go_ret;exact BoolIf.of false (fun _ => HF.out) HB0.out
set_option maxHeartbeats 2000000 in
set_option maxRecDepth 100000 in
theorem ranked_any (A : Option Addr) (n c : Nat) (l : List Nt) (w : World) (hl : NotesR w w.heap.size A n l) (hn : n <= 1000000) :
  Calls Tryz.prog 88 #[.slice A n c] w (BoolIf (fun b => b = true -> Ranked l) w) := by
 have HL := hI hl;have HLN := hI hl.len;have HBR : Hid (Below w.heap.size w w) := Below.refl _ _;clear hl;go_enter Tryz.func88, Tryz.ntmps88
 go_wp2_with fail
 go_loop [3, 4, 5] (fun v3 v4 v5 => ∃ i : Nat, i <= n /\ v3 = .int .i64 i /\ Hid (∀ k : Nat, k < i -> ∃ (i : Nat) (x : Nt), l[i]? = some x /\ x.rank = (k : Int))) (fun v3 _ _ => n - (intOf v3).toNat)
 case atStart => exact ⟨0, Nat.zero_le _, rfl, fun k h => by omega⟩
 case round =>
  obtain ⟨k, hk, rfl, HP⟩ := hrel;by_cases hlt : k < n
  ·have hkz : (k : Int) < (n : Int) := by omega
   have hkA : (0 : Int) <= (k : Int) := by omega
   have HI := hI hlt;go_wp2_with fail
   go_loop [4, 5] (fun v4 v5 => ∃ (i : Nat) (fb : Bool), i <= n /\ v5 = .int .i64 i /\ v4 = .bool fb /\ Hid (fb = true -> ∃ (i : Nat) (x : Nt), l[i]? = some x /\ x.rank = (k : Int))) (fun _ v5 => n - (intOf v5).toNat)
   case atStart => exact ⟨0, false, Nat.zero_le _, rfl, rfl, fun h => by cases h⟩
   case round =>
    obtain ⟨i, fb, hi, rfl, rfl, HF⟩ := hrel;by_cases hli : i < n
    ·have hiz : (i : Int) < (n : Int) := by omega
     have hiA : (0 : Int) <= (i : Int) := by omega
     have HII := hI hli;obtain ⟨ad, x, rfl, hab, hx, hcells⟩ := HL.out.at_ hli;obtain ⟨q0, q1, q2, q3, q4, q5, q6⟩ := hcells w bR;have HX := hI hx;clear hx hcells
     cases fb with
     | true =>
      go_wp2;go_round
      case rel => exact ⟨i + 1, true, HII.out, by go_num, rfl, HF⟩
      case measure => have := HII.out; simp [intOf]; omega
     | false =>
      by_cases he : x.rank = (k : Int)
      ·have hb : (x.rank == (k : Int)) = true := beq_iff_eq.2 he;have HF2 : Hid (true = true -> ∃ (i : Nat) (x : Nt), l[i]? = some x /\ x.rank = (k : Int)) := fun _ => ⟨i, x, HX.out, he⟩
       clear he;go_wp2;go_round
       case rel => exact ⟨i + 1, true, HII.out, by go_num, rfl, HF2⟩
       case measure => have := HII.out; simp [intOf]; omega
      ·have hb : (x.rank == (k : Int)) = false := beq_eq_false_iff_ne.2 he;clear he;go_wp2;go_round
       case rel => exact ⟨i + 1, false, HII.out, by go_num, rfl, fun h => by cases h⟩
       case measure => have := HII.out; simp [intOf]; omega
    ·obtain rfl : n = i := by omega
     have hiz : ¬ (n : Int) < (n : Int) := by omega
     cases fb with
     | true =>
      have HP2 : Hid (∀ j : Nat, j < k + 1 -> ∃ (i : Nat) (x : Nt), l[i]? = some x /\ x.rank = (j : Int)) := fun j hj => by
       by_cases e : j = k
       ·subst e; exact HF.out rfl
       ·exact HP.out j (by omega)
      go_wp2;go_round
      case rel => exact ⟨k + 1, HI.out, by go_num, HP2⟩
      case measure => have := HI.out; simp [intOf]; omega
     | false =>
      go_wp2;go_ret;exact BoolIf.of false (fun h => by cases h) HBR.out
  ·obtain rfl : n = k := by omega
   have hkz : ¬ (n : Int) < (n : Int) := by omega
   have HF : Hid (Ranked l) := fun k hk => HP.out k (by rw [<- HLN.out]; exact hk)
   go_wp2;go_ret;exact BoolIf.of true (fun _ => HF.out) HBR.out
theorem info_span : (Tryz.prog.info? 56).map (fun i => (i.zero, i.size, i.bytes)) = some (some (.agg #[.int .i64 0, .int .i64 0]), 2, 16) := by kernel_rfl
def spansL (l : List Nt) : List (Int × Int) := l.map fun x => (x.at1, x.at2)
theorem spans_next {l : List Nt} {i : Nat} {x : Nt} (hx : l[i]? = some x) : spansL (l.take (i + 1)) = spansL (l.take i) ++ [(x.at1, x.at2)] := by
 unfold spansL;rw [take_at2 hx, List.map_append];rfl
theorem sp_made (w : World) (base : Nat) (hb : base <= w.heap.size) : SpO (w.alloc (.cells #[] 56)) base (.slice (some ⟨w.heap.size, 0, none⟩) 0 0) [] :=
 World.ownsRow_made (base := base) (e := 56) (size := 2) w #[] 0 hb (by unfold maxLen; omega) (by simp)
set_option maxHeartbeats 2000000 in
set_option maxRecDepth 100000 in
theorem spans_any (A : Option Addr) (n c : Nat) (l : List Nt) (w : World) (hl : NotesR w w.heap.size A n l) (hn : n <= 1000000) :
  Calls Tryz.prog 87 #[.slice A n c] w fun e w' => ∃ v, e = .returned v /\ SpO w' w.heap.size v (spansL l) /\ Below w.heap.size w w' := by
 have HL := hI hl;have HLN := hI hl.len;have hown := hI (sp_made w w.heap.size (Nat.le_refl _));have HBA : Hid (Below w.heap.size w (w.alloc (.cells #[] 56))) := bR.alloc (Nat.le_refl _) _;clear hl;go_enter Tryz.func87, Tryz.ntmps87
 go_wp2_with fail
 go_loopw [3, 4] (fun v3 v4 wr => ∃ i : Nat, i <= n /\ v4 = .int .i64 i /\ Hid (SpO wr w.heap.size v3 (spansL (l.take i))) /\ Hid (Below w.heap.size w wr)) (fun _ v4 _ => n - (intOf v4).toNat)
 case atStart => exact ⟨0, Nat.zero_le _, rfl, (by rw [List.take_zero]; exact hown.out), HBA.out⟩
 case round =>
  clear hown HBA;obtain ⟨i, hi, rfl, HO, HB1⟩ := hrel;obtain ⟨w0, hw0⟩ : ∃ w0, wr = w0 := ⟨_, rfl⟩;rw [hw0] at HO HB1 |-;clear hw0;by_cases hlt : i < n
  ·have hiz : (i : Int) < (n : Int) := by omega
   have hiA : (0 : Int) <= (i : Int) := by omega
   obtain ⟨ad, x, rfl, hab, hx, hcells⟩ := HL.out.at_ hlt;obtain ⟨q0, q1, q2, q3, q4, q5, q6⟩ := hcells w0 HB1.out;have q4' : w0.cell? ⟨(ad.add (i * 7)).block, (ad.add (i * 7)).off + 3 + 1, none⟩ = some (.int .i64 x.at2) := q4;have HI := hI hlt;have HNX := hI (spans_next hx);have hsz := HB1.out.size;have hlls : (spansL (l.take i)).length <= i := by unfold spansL; rw [List.length_map, List.length_take]; omega
   obtain ⟨ll, hlq⟩ : ∃ ll, spansL (l.take i) = ll := ⟨_, rfl⟩;rw [hlq] at HO HNX hlls;have hi1 : i + 1 <= n := hlt;clear hx hcells hlq;go_wp2_with (at_builtin; refine wpList_appN rfl (.tmp 12) (.tmp 18) 119 rfl w.heap.size 56 2 16 (.agg #[.int .i64 0, .int .i64 0]) info_span rfl (by omega) Tryz.underlying119 rfl HO.out rfl rfl (by simp [Value.oneCell']) (by omega) (by omega) (by omega) ?_; rintro v7' w4 hown7 hb7)
   have HO3 : Hid (SpO w4 w.heap.size v7' (spansL (l.take (i + 1)))) := by
    show OwnR _ _ _ _ _ _ _;rw [HNX.out];exact OwnR.snoc hown7
   have HB3 : Hid (Below w.heap.size w w4) := HB1.out.trans hb7;clear HNX hown7 hb7;go_wp2;go_roundw
   case rel => exact ⟨i + 1, hi1, by go_num, HO3, HB3⟩
   case measure => have := HI.out; simp [intOf]; omega
  ·obtain rfl : n = i := by omega
   have hiz : ¬ (n : Int) < (n : Int) := by omega
   have HF : Hid (SpO w0 w.heap.size u3 (spansL l)) := by
    have h := HO.out;rw [List.take_of_length_le (by rw [HLN.out]; exact Nat.le_refl _)] at h;exact h
   go_wp2;go_ret;exact ⟨_, rfl, HF.out, HB1.out⟩
set_option maxHeartbeats 2000000 in
set_option maxRecDepth 100000 in
theorem insert_none (A : Option Addr) (c : Nat) (a b : Int) (w : World) :
    Calls Tryz.prog 152 #[.slice A 0 c, .agg #[.int .i64 a, .int .i64 b]] w fun e w' => ∃ v, e = .returned v /\ SpO w' w.heap.size v [(a, b)] /\ Below w.heap.size w w' := by
  obtain ⟨i0, hi, hz0, hz1, hz2⟩ := info_parts info_span;obtain ⟨W0, hW0⟩ : ∃ W0, ((w.alloc (.cells #[.int .i64 a, .int .i64 b] 56)).alloc (.cells #[] 56)).alloc (.cells #[] 56) = W0 := ⟨_, rfl⟩;have HB0 : Hid (Below w.heap.size w W0) := by rw [<- hW0]; exact (((Below.refl _ w).alloc (Nat.le_refl _) _).alloc (by simp) _).alloc (by simp <;> omega) _
  have hz : W0.heap.size = w.heap.size + 3 := by rw [<- hW0]; simp
  have HO1 : Hid (SpO W0 w.heap.size (.slice (some ⟨w.heap.size + 1, 0, none⟩) 0 0) []) := by
    have h := sp_made (w.alloc (.cells #[.int .i64 a, .int .i64 b] 56)) w.heap.size (by simp);rw [show (w.alloc (.cells #[.int .i64 a, .int .i64 b] 56)).heap.size = w.heap.size + 1 by simp] at h;rw [<- hW0];exact World.ownsRow.alloc h _
  have k0 : W0.cell? ⟨w.heap.size, 0, none⟩ = some (.int .i64 a) := by rw [<- hW0, World.cell?_alloc_lt _ _ _ (by simp <;> omega), World.cell?_alloc_lt _ _ _ (by simp), World.cell?_alloc_new]; rfl
  have k1 : W0.cell? ⟨w.heap.size, 1, none⟩ = some (.int .i64 b) := by rw [<- hW0, World.cell?_alloc_lt _ _ _ (by simp <;> omega), World.cell?_alloc_lt _ _ _ (by simp), World.cell?_alloc_new]; rfl
  go_enter Tryz.func152, Tryz.ntmps152
  go_upto_region 3 with fail
  (try rw [hW0])
  clear hW0;go_wp2_with fail
  refine wp_loop_rounds 1 ?_;rw [rounds_succ];go_upto_region 11 with fail
  obtain ⟨v5, hv5⟩ : ∃ v, Value.slice (some ⟨w.heap.size + 1, 0, none⟩) 0 0 = v := ⟨_, rfl⟩;rw [hv5] at HO1 |-;clear hv5
  go_wp2_with (first
    | (at_builtin
       refine wpList_appN rfl (.tmp 63) (.tmp 65) 119 rfl w.heap.size 56 2 16 (.agg #[.int .i64 0, .int .i64 0]) info_span rfl (by omega) Tryz.underlying119 rfl HO1.out (by rw [hz]; rfl) rfl (by simp [Value.oneCell']) (by simp) (by simp) (by omega) ?_;rintro v7 w4 hown7 hb7;have HO7 := hI hown7;have HB7 : Hid (Below w.heap.size w w4) := HB0.out.trans hb7;clear hown7 hb7 k0 k1)
    | (at_builtin
       refine wpList_append_own _ rfl (.tmp 66) (.tmp 67) 119 rfl w.heap.size 56 i0 _ 2 16 Tryz.underlying119 hi hz0 hz1 hz2 rfl (by decide) _ 1 [.int .i64 a, .int .i64 b] rfl HO7.out ⟨w.heap.size + 2, 0, none⟩ 0 0 [] rfl rfl (fun j u hu => by simp at hu) (fun u hu => by simp at hu) (by unfold maxLen; omega) (by omega) (HB7.out.size) ?_;intro v8 w5 hown8 hg8 _))
  have HO8 : Hid (SpO w5 w.heap.size v8 [(a, b)]) := hown8;have HB8 : Hid (Below w.heap.size w w5) := HB7.out.grown hg8 (HB7.out.size) fun k hk => (HO7.out.lt k hk).1
  clear hown8 hg8;go_ret;exact ⟨_, rfl, HO8.out, HB8.out⟩
set_option maxHeartbeats 2000000 in
set_option maxRecDepth 100000 in
theorem union_one (A : Option Addr) (c : Nat) (a b : Int) (w : World) (hl : SpR w w.heap.size A 1 [(a, b)]) :
  Calls Tryz.prog 131 #[.slice A 1 c] w (SpPost 1 w) := by
 have HL := hI hl;have hown := hI (sp_made w w.heap.size (Nat.le_refl _));have HBA : Hid (Below w.heap.size w (w.alloc (.cells #[] 56))) := bR.alloc (Nat.le_refl _) _;clear hl;go_enter Tryz.func131, Tryz.ntmps131
 go_wp2_with fail
 go_loopw [3, 4] (fun v3 v4 wr => ∃ (i : Nat) (ys : List (Int × Int)), i <= 1 /\ v4 = .int .i64 i /\ Hid (ys.length <= i) /\ Hid (SpO wr w.heap.size v3 ys) /\ Hid (Below w.heap.size w wr)) (fun _ v4 _ => 1 - (intOf v4).toNat)
 case atStart => exact ⟨0, [], Nat.zero_le _, rfl, Nat.le_refl _, hown.out, HBA.out⟩
 case round =>
  clear hown HBA;obtain ⟨i, ys, hi, rfl, HYS, HO, HB1⟩ := hrel;obtain ⟨w0, hw0⟩ : ∃ w0, wr = w0 := ⟨_, rfl⟩;rw [hw0] at HO HB1 |-;clear hw0;by_cases hlt : i < 1
  ·obtain rfl : i = 0 := by omega
   obtain rfl : ys = [] := List.eq_nil_of_length_eq_zero (by have := HYS.out; omega);obtain ⟨A3, c3, rfl, _, _, _⟩ := HO.out.form;obtain ⟨ad, x, rfl, hab, hx, hcells⟩ := HL.out.at_ (k := 0) (by omega);obtain ⟨q0, q1⟩ := hcells w0 HB1.out;have hx2 : x = (a, b) := by simpa using hx.symm
   subst hx2;rw [Nat.zero_mul] at q0 q1;have e0 : ad.add 0 = ad := by rw [Addr.add, if_pos rfl]
   rw [e0] at q0 q1;clear hx hcells e0;have HRS := hI (right09_any a b w0);obtain ⟨rb, hrb⟩ : ∃ rb, rightS a b = rb := ⟨_, rfl⟩;rw [hrb] at HRS;clear hrb
   cases rb with
   | true =>
    go_wp2_with fail
    refine HRS.out.mono ?_;rintro e w2 ⟨rfl, hb2⟩;have HB2 : Hid (Below w.heap.size w w2) := HB1.out.trans (hb2.mono HB1.out.size);have hz2 := hb2.size;have r0 : w2.cell? ad = some (.int .i64 a) := (HB2.out.cell hab).trans ((HB1.out.cell hab).symm.trans q0);have r1 : w2.cell? ⟨ad.block, ad.off + 1, none⟩ = some (.int .i64 b) := (HB2.out.cell (p := ⟨ad.block, ad.off + 1, none⟩) hab).trans ((HB1.out.cell (p := ⟨ad.block, ad.off + 1, none⟩) hab).symm.trans q1);clear hb2 q0 q1;have HIN := hI (insert_none A3 c3 a b w2);go_wp2_with fail
    refine HIN.out.mono ?_;rintro e w3 ⟨v, rfl, ho, hb⟩;have HO3 : Hid (SpO w3 w.heap.size v [(a, b)]) := own_base ho HB2.out.size;have HB3 : Hid (Below w.heap.size w w3) := HB2.out.trans (hb.mono HB2.out.size);clear ho hb r0 r1;go_wp2;go_roundw
    case rel => exact ⟨1, _, Nat.le_refl _, by go_num, Nat.le_refl _, HO3, HB3⟩
    case measure => simp [intOf]
   | false =>
    go_wp2_with fail
    refine HRS.out.mono ?_;rintro e w2 ⟨rfl, hb2⟩;have HO2 : Hid (SpO w2 w.heap.size (.slice A3 0 c3) []) := HO.out.on hb2;have HB2 : Hid (Below w.heap.size w w2) := HB1.out.trans (hb2.mono HB1.out.size);clear hb2 q0 q1;go_wp2;go_roundw
    case rel => exact ⟨1, [], Nat.le_refl _, by go_num, Nat.zero_le _, HO2, HB2⟩
    case measure => simp [intOf]
  ·obtain rfl : i = 1 := by omega
   go_wp2;go_ret;exact SpPost.of HYS.out HO.out HB1.out
set_option maxHeartbeats 4000000 in
set_option maxRecDepth 100000 in
theorem without_any (A : Option Addr) (n c : Nat) (l : List (Int × Int)) (a b : Int) (w : World) (hl : SpR w w.heap.size A n l) (hn : n <= 1000000) :
  Calls Tryz.prog 132 #[.slice A n c, .agg #[.int .i64 a, .int .i64 b]] w (SpPost (2 * n) w) := by
 have HL := hI hl;clear hl;obtain ⟨W0, hW0⟩ : ∃ W0, (w.alloc (.cells #[.int .i64 a, .int .i64 b] 56)).alloc (.cells #[] 56) = W0 := ⟨_, rfl⟩;have HB0 : Hid (Below w.heap.size w W0) := by rw [<- hW0]; exact ((Below.refl _ w).alloc (Nat.le_refl _) _).alloc (by simp) _
 have hz : W0.heap.size = w.heap.size + 2 := by rw [<- hW0]; simp
 have HO1 : Hid (SpO W0 (w.heap.size + 1) (.slice (some ⟨w.heap.size + 1, 0, none⟩) 0 0) []) := by
  have h := sp_made (w.alloc (.cells #[.int .i64 a, .int .i64 b] 56)) (w.heap.size + 1) (by simp);rw [show (w.alloc (.cells #[.int .i64 a, .int .i64 b] 56)).heap.size = w.heap.size + 1 by simp] at h;rw [<- hW0];exact h
 have HK : Hid (∀ X, Below (w.heap.size + 1) W0 X -> X.cell? ⟨w.heap.size, 0, none⟩ = some (.int .i64 a) /\ X.cell? ⟨w.heap.size, 1, none⟩ = some (.int .i64 b)) := fun X hX => by
  refine ⟨?_, ?_⟩
  ·rw [hX.cell (by show w.heap.size < _; omega), <- hW0, World.cell?_alloc_lt _ _ _ (by simp), World.cell?_alloc_new]; rfl
  ·rw [hX.cell (by show w.heap.size < _; omega), <- hW0, World.cell?_alloc_lt _ _ _ (by simp), World.cell?_alloc_new]; rfl
 go_enter Tryz.func132, Tryz.ntmps132
 go_upto_region 2 with fail
 (try rw [hW0])
 clear hW0;go_wp2_with fail
 go_loopw [5, 6, 7, 8] (fun v5 v6 _ _ wr => ∃ (i : Nat) (ys : List (Int × Int)), i <= n /\ v6 = .int .i64 i /\ Hid (ys.length <= 2 * i) /\ Hid (SpO wr (w.heap.size + 1) v5 ys) /\ Hid (Below (w.heap.size + 1) W0 wr)) (fun _ v6 _ _ _ => n - (intOf v6).toNat)
 case atStart => exact ⟨0, [], Nat.zero_le _, rfl, Nat.le_refl _, HO1.out, Below.refl _ _⟩
 case round =>
  clear HO1;obtain ⟨i, ys, hi, rfl, HYS, HO, HB1⟩ := hrel;obtain ⟨w0, hw0⟩ : ∃ w0, wr = w0 := ⟨_, rfl⟩;rw [hw0] at HO HB1 |-;clear hw0;have HBW : Hid (Below w.heap.size w w0) := HB0.out.trans (HB1.out.mono (by omega));have hwz : w.heap.size + 2 <= w0.heap.size := by have := HB1.out.size; omega
  by_cases hlt : i < n
  ·have hiz : (i : Int) < (n : Int) := by omega
   have hiA : (0 : Int) <= (i : Int) := by omega
   have HI := hI hlt;obtain ⟨ad, x, rfl, hab, hx, hcells⟩ := HL.out.at_ hlt;obtain ⟨q0, q1⟩ := hcells w0 HBW.out;obtain ⟨k0, k1⟩ := HK.out w0 HB1.out;have hl0 : w.heap.size < w0.heap.size := by omega
   have hl1 : (ad.add (i * 2)).block < w0.heap.size := by rw [block_of_add]; omega
   have hl2 : ad.block < w0.heap.size := by omega
   clear hx;go_wp2_with fail
   go_region
   obtain ⟨la, hla⟩ : ∃ la, min x.2 a = la := ⟨_, rfl⟩;rw [hla];clear hla;obtain ⟨w1, hw1⟩ : ∃ w1, (w0.alloc (.cells #[.int .i64 x.1, .int .i64 la] 56)).drew = w1 := ⟨_, rfl⟩;have HB01 : Hid (Below w0.heap.size w0 w1) := by rw [<- hw1]; exact ((Below.refl _ w0).alloc (Nat.le_refl _) _).drew
   have hz1 : w1.heap.size = w0.heap.size + 1 := by rw [<- hw1]; simp
   have HL1 : Hid (∀ X, Below w1.heap.size w1 X -> X.cell? ⟨w0.heap.size, 0, none⟩ = some (.int .i64 x.1) /\ X.cell? ⟨w0.heap.size, 1, none⟩ = some (.int .i64 la)) := fun X hX => by
    refine ⟨?_, ?_⟩
    ·rw [hX.cell (by show w0.heap.size < _; omega), <- hw1, World.cell?_drew, World.cell?_alloc_new]; rfl
    ·rw [hX.cell (by show w0.heap.size < _; omega), <- hw1, World.cell?_drew, World.cell?_alloc_new]; rfl
   rw [hw1];have HZ1 := hI hz1;clear hz1 hw1 k0 k1 q0 q1 hl0 hl1 hl2;have HBW1 : Hid (Below w.heap.size w w1) := HBW.out.trans (HB01.out.mono HBW.out.size);have HK1 : Hid (Below (w.heap.size + 1) W0 w1) := HB1.out.trans (HB01.out.mono (by omega));obtain ⟨k0, k1⟩ := HK.out w1 HK1.out;obtain ⟨q0, q1⟩ := hcells w1 HBW1.out;have hl0 : w.heap.size < w1.heap.size := by have := HZ1.out; omega
   have hl1 : (ad.add (i * 2)).block < w1.heap.size := by rw [block_of_add]; have := HZ1.out; omega
   have hl2 : ad.block < w1.heap.size := by have := HZ1.out; omega
   have HO1 : Hid (SpO w1 (w.heap.size + 1) u5 ys) := HO.out.on HB01.out;have HOB : Hid (∀ b, u5.ownBlock = some b -> b < w0.heap.size) := fun b hb => (World.ownsRow.lt HO.out b hb).2
   clear HO;go_wp2_with fail
   go_region
   obtain ⟨rb, hrb⟩ : ∃ rb, max x.1 b = rb := ⟨_, rfl⟩;rw [hrb];clear hrb;obtain ⟨w2, hw2⟩ : ∃ w2, (w1.alloc (.cells #[.int .i64 rb, .int .i64 x.2] 56)).drew = w2 := ⟨_, rfl⟩;have HB12 : Hid (Below w1.heap.size w1 w2) := by rw [<- hw2]; exact ((Below.refl _ w1).alloc (Nat.le_refl _) _).drew
   have hz2 : w2.heap.size = w1.heap.size + 1 := by rw [<- hw2]; simp
   have HL2 : Hid (∀ X, Below w2.heap.size w2 X -> X.cell? ⟨w1.heap.size, 0, none⟩ = some (.int .i64 rb) /\ X.cell? ⟨w1.heap.size, 1, none⟩ = some (.int .i64 x.2)) := fun X hX => by
    refine ⟨?_, ?_⟩
    ·rw [hX.cell (by show w1.heap.size < _; omega), <- hw2, World.cell?_drew, World.cell?_alloc_new]; rfl
    ·rw [hX.cell (by show w1.heap.size < _; omega), <- hw2, World.cell?_drew, World.cell?_alloc_new]; rfl
   rw [hw2];clear hw2 k0 k1 q0 q1 hl0 hl1 hl2 hcells;have HBW2 : Hid (Below w.heap.size w w2) := HBW1.out.trans (HB12.out.mono HBW1.out.size);have HK2 : Hid (Below (w.heap.size + 1) W0 w2) := HK1.out.trans (HB12.out.mono (by have := HZ1.out; omega));have HO2 : Hid (SpO w2 (w.heap.size + 1) u5 ys) := HO1.out.on HB12.out;clear HO1;obtain ⟨p, hp⟩ : ∃ p, w0.heap.size = p := ⟨_, rfl⟩;obtain ⟨p2, hp2⟩ : ∃ p, w1.heap.size = p := ⟨_, rfl⟩;have hpz : w.heap.size + 2 <= p := by omega
   have hz2p : w2.heap.size = p + 2 := by have := HZ1.out; omega
   have HP2Z : Hid (p2 = p + 1) := by show _ = _; have := HZ1.out; omega
   rw [hp] at HL1 HOB |-;rw [hp2] at HL2 |-;clear hp2 hz2;have HL1' : Hid (∀ X, Below w2.heap.size w2 X -> X.cell? ⟨p, 0, none⟩ = some (.int .i64 x.1) /\ X.cell? ⟨p, 1, none⟩ = some (.int .i64 la)) := fun X hX => HL1.out X (HB12.out.trans (hX.mono HB12.out.size))
   clear HL1;obtain ⟨m0, m1⟩ := HL1'.out w2 bR;have HR1 := hI fun W => right09_any x.1 la W
   have HR2 := hI fun W => right09_any rb x.2 W
   obtain ⟨c1, hc1⟩ : ∃ c1, rightS x.1 la = c1 := ⟨_, rfl⟩;obtain ⟨c2, hc2⟩ : ∃ c2, rightS rb x.2 = c2 := ⟨_, rfl⟩;rw [hc1] at HR1;rw [hc2] at HR2;clear hc1 hc2;have hyl := HYS.out;have HRW2 : Hid (w2.cell? ⟨p2, 0, none⟩ = some (.int .i64 rb) /\ w2.cell? ⟨p2, 1, none⟩ = some (.int .i64 x.2) /\ p2 < w2.heap.size) := ⟨(HL2.out w2 bR).1, (HL2.out w2 bR).2, by have := HP2Z.out; omega⟩;go_upto_if 45 with (refine (HR1.out w2).mono ?_; rintro e w4 ⟨rfl, hb4⟩)
   have HO4 : Hid (SpO w4 (w.heap.size + 1) u5 ys) := HO2.out.on hb4;have HK4 : Hid (Below (w.heap.size + 1) W0 w4) := HK2.out.trans (hb4.mono (by have := HK2.out.size; omega));have HX4 : Hid (Below w2.heap.size w2 w4) := hb4;have hz4 := HK4.out.size;have HR4 : Hid (w4.cell? ⟨p2, 0, none⟩ = some (.int .i64 rb) /\ w4.cell? ⟨p2, 1, none⟩ = some (.int .i64 x.2) /\ p2 < w4.heap.size) := ⟨(hb4.cell (p := ⟨p2, 0, none⟩) HRW2.out.2.2).trans HRW2.out.1, (hb4.cell (p := ⟨p2, 1, none⟩) HRW2.out.2.2).trans HRW2.out.2.1, Nat.lt_of_lt_of_le HRW2.out.2.2 hb4.size⟩;clear hb4 m0 m1;go_cut [5] from 46 to 49 (fun v5 wx => ∃ ys2 : List (Int × Int), Hid (ys2.length <= 2 * i + 1) /\ Hid (SpO wx (w.heap.size + 1) v5 ys2) /\ Hid (Below (w.heap.size + 1) W0 wx) /\ Hid (wx.cell? ⟨p2, 0, none⟩ = some (.int .i64 rb) /\ wx.cell? ⟨p2, 1, none⟩ = some (.int .i64 x.2) /\ p2 < wx.heap.size))
   case first =>
    cases c1 with
    | true =>
     obtain ⟨m0, m1⟩ := HL1'.out w4 HX4.out;obtain ⟨r0, r1, rz⟩ := HR4.out;go_wp2_with (at_builtin; refine wpList_appN2 rfl (.tmp 46) (.tmp 48) 119 rfl (w.heap.size + 1) 56 2 16 (.agg #[.int .i64 0, .int .i64 0]) info_span rfl (by omega) Tryz.underlying119 rfl HO4.out rfl rfl (by simp [Value.oneCell']) (by omega) (by omega) (by omega) ?_; rintro v7 w5 hown7 hb7 hg7 _)
     have HO5 : Hid (SpO w5 (w.heap.size + 1) v7 (ys ++ [(x.1, la)])) := OwnR.snoc (f := encS) (x := (x.1, la)) hown7;have HK5 : Hid (Below (w.heap.size + 1) W0 w5) := HK4.out.trans hb7;have r5 : w5.cell? ⟨p2, 0, none⟩ = some (.int .i64 rb) := (World.cell?_of_block (a := ⟨p2, 0, none⟩) (hg7.block p2 (by simp; omega) (fun e => by have := HOB.out p2 e.symm; have := HP2Z.out; omega))).trans ((World.cell?_alloc_lt _ _ _ rz).trans r0);have r6 : w5.cell? ⟨p2, 1, none⟩ = some (.int .i64 x.2) := (World.cell?_of_block (a := ⟨p2, 1, none⟩) (hg7.block p2 (by simp; omega) (fun e => by have := HOB.out p2 e.symm; have := HP2Z.out; omega))).trans ((World.cell?_alloc_lt _ _ _ rz).trans r1);have rz5 : p2 < w5.heap.size := Nat.lt_of_lt_of_le (by simp; omega) hg7.size;have HR5 := hI (And.intro r5 (And.intro r6 rz5));have HLE : Hid ((ys ++ [(x.1, la)]).length <= 2 * i + 1) := by show _ <= _; rw [List.length_append, List.length_singleton]; omega
     clear hown7 hb7 hg7 r5 r6 rz5 r0 r1 rz m0 m1;(try go_wp2)
     go_meet
     exact ⟨_, HLE, HO5, HK5, HR5⟩
    | false =>
     have HLE : Hid (ys.length <= 2 * i + 1) := by show _ <= _; omega
     go_wp2;go_meet
     exact ⟨ys, HLE, HO4, HK4, HR4⟩
   case rest =>
    obtain ⟨ys2, HY2, HO5, HK5, HR5⟩ := hcut;clear HO2 HL1' HL2 HRW2 HOB HR1 HB12 HBW2 HK2 HO4 HK4 HX4 HR4 hz4 hyl;have hyl2 := HY2.out;obtain ⟨r0, r1, rz⟩ := HR5.out
    cases c2 with
    | true =>
     go_wp2_with fail
     refine (HR2.out _).mono ?_;rintro e w8 ⟨rfl, hb8⟩;have HO8 := hI (HO5.out.on hb8);have HK8 := hI (HK5.out.trans (hb8.mono (by have := HK5.out.size; omega)));have hz8 := HK8.out.size;have s0 := (hb8.cell (p := ⟨p2, 0, none⟩) rz).trans r0;have s1 := (hb8.cell (p := ⟨p2, 1, none⟩) rz).trans r1;clear hb8 r0 r1 rz;go_wp2_with (at_builtin; refine wpList_appN rfl (.tmp 52) (.tmp 54) 119 rfl (w.heap.size + 1) 56 2 16 (.agg #[.int .i64 0, .int .i64 0]) info_span rfl (by omega) Tryz.underlying119 rfl HO8.out rfl rfl (by simp [Value.oneCell']) (by omega) (by omega) (by omega) ?_; rintro v9 w9 hown9 hb9)
     have HO9 : Hid (SpO w9 (w.heap.size + 1) v9 (ys2 ++ [(rb, x.2)])) := OwnR.snoc (f := encS) (x := (rb, x.2)) hown9;have HK9 := hI (HK8.out.trans hb9);have HLE : Hid ((ys2 ++ [(rb, x.2)]).length <= 2 * (i + 1)) := by show _ <= _; rw [List.length_append, List.length_singleton]; omega
     clear hown9 hb9 s0 s1;go_wp2;go_roundw
     case rel => exact ⟨i + 1, ys2 ++ [(rb, x.2)], HI.out, by go_num, HLE, HO9, HK9⟩
     case measure => have := HI.out; simp [intOf]; omega
    | false =>
     go_wp2_with fail
     refine (HR2.out _).mono ?_;rintro e w8 ⟨rfl, hb8⟩;have HO8 := hI (HO5.out.on hb8);have HK8 := hI (HK5.out.trans (hb8.mono (by have := HK5.out.size; omega)));have HLE : Hid (ys2.length <= 2 * (i + 1)) := by show _ <= _; omega
     clear hb8 r0 r1 rz;go_wp2;go_roundw
     case rel => exact ⟨i + 1, ys2, HI.out, by go_num, HLE, HO8, HK8⟩
     case measure => have := HI.out; simp [intOf]; omega
  ·obtain rfl : n = i := by omega
   have hiz : ¬ (n : Int) < (n : Int) := by omega
   have HF : Hid (SpO w0 w.heap.size u5 ys) := own_base HO.out (by omega);go_wp2;go_ret;exact SpPost.of HYS.out HF.out HBW.out
end
end Go.Proofs.YthcabnfcgjnlnaaGreatDoor
