import Derived.Test.YthcabnfcgjnlnaaGreatDoorRo04
/-
  Covers returns: Minus, Covers.
-/
namespace Go.Proofs.YthcabnfcgjnlnaaGreatDoor
open Go.RowKit Ru Lay
attribute [local go_sem ↓] Go.wp_at_zero Go.wp_at_succ
set_option linter.unusedVariables false
set_option linter.unusedSimpArgs false

set_option maxHeartbeats 2000000 in
set_option maxRecDepth 100000 in
theorem minus_any (A A2 : Option Addr) (c m c2 : Nat) (a b : Int) (l : List (Int × Int)) (w : World) (ha : SpR w w.heap.size A 1 [(a, b)]) (hl : SpR w w.heap.size A2 m l) (hm : m ≤ 14) :
    Calls Tryz.prog 112 #[.slice A 1 c, .slice A2 m c2] w (SpPost 16384 w) := by
  have HL := Lib.hid hl
  have HU := Lib.hid (union_one A c a b w ha)
  clear ha hl
  go_enter Tryz.func112, Tryz.ntmps112
  go_wp2_with fail
  refine HU.out.mono ?_
  rintro e w1 ⟨v, ys0, rfl, hy0, ho0, hb0⟩
  have HO0 := Lib.hid ho0
  have HB0 := Lib.hid hb0
  have HY0 : Hid (ys0.length ≤ 2 ^ 0) := hy0
  clear hy0 ho0 hb0 HU
  go_wp2_with fail
  go_loopw [5, 6] (fun v5 v6 wr => ∃ (i : Nat) (ys : List (Int × Int)), i ≤ m ∧ v6 = .int .i64 i ∧ Hid (ys.length ≤ 2 ^ i) ∧ Hid (SpO wr w.heap.size v5 ys) ∧ Hid (Below w.heap.size w wr)) (fun _ v6 _ => m - (intOf v6).toNat)
  case atStart => exact ⟨0, ys0, Nat.zero_le _, rfl, HY0, HO0, HB0⟩
  case round =>
    clear HO0 HB0 HY0
    obtain ⟨i, ys, hi, rfl, HYS, HO, HB1⟩ := hrel
    obtain ⟨w0, hw0⟩ : ∃ w0, wr = w0 := ⟨_, rfl⟩
    rw [hw0] at HO HB1 ⊢
    clear hw0
    have HP : Hid (2 ^ i ≤ 16384) := Nat.le_trans (Nat.pow_le_pow_right (by omega) (show i ≤ 14 by omega)) (by decide)
    by_cases hlt : i < m
    · have hiz : (i : Int) < (m : Int) := by omega
      have hiA : (0 : Int) ≤ (i : Int) := by omega
      have HI := Lib.hid hlt
      obtain ⟨ad, x, rfl, hab, hx, hcells⟩ := HL.out.at_ hlt
      obtain ⟨q0, q1⟩ := hcells w0 HB1.out
      obtain ⟨A3, c3, rfl, _, _, _⟩ := HO.out.form
      have HRS := Lib.hid (right09_any x.1 x.2 w0)
      obtain ⟨rb, hrb⟩ : ∃ rb, rightS x.1 x.2 = rb := ⟨_, rfl⟩
      rw [hrb] at HRS
      have HN : Hid (2 * ys.length ≤ 2 ^ (i + 1)) := by show _ ≤ _; rw [Nat.pow_succ]; have := HYS.out; omega
      have HN0 : Hid (ys.length ≤ 2 ^ (i + 1)) := by show _ ≤ _; have := HN.out; omega
      clear hrb hx
      cases rb with
      | true =>
        go_wp2_with fail
        refine HRS.out.mono ?_
        rintro e w2 ⟨rfl, hb2⟩
        have HB2 : Hid (Below w.heap.size w w2) := HB1.out.trans (hb2.mono HB1.out.size)
        have HO2 := Lib.hid (HO.out.on hb2)
        clear hb2 q0 q1
        obtain ⟨q0, q1⟩ := hcells w2 HB2.out
        obtain ⟨A4, c4, hv4, _, _, hr4⟩ := HO2.out.form
        cases hv4
        have HW := Lib.hid (without_any A3 ys.length c3 ys x.1 x.2 w2 hr4 (by have := HYS.out; have := HP.out; omega))
        clear hr4 hcells HO
        go_wp2_with fail
        refine HW.out.mono ?_
        rintro e w3 ⟨v, zs, rfl, hz, ho, hb⟩
        have HO3 : Hid (SpO w3 w.heap.size v zs) := own_base ho HB2.out.size
        have HB3 : Hid (Below w.heap.size w w3) := HB2.out.trans (hb.mono HB2.out.size)
        have HZ : Hid (zs.length ≤ 2 ^ (i + 1)) := Nat.le_trans hz HN.out
        clear ho hb hz q0 q1
        go_wp2
        go_roundw
        case rel => exact ⟨i + 1, zs, HI.out, by go_num, HZ, HO3, HB3⟩
        case measure => have := HI.out; simp [intOf]; omega
      | false =>
        go_wp2_with fail
        refine HRS.out.mono ?_
        rintro e w2 ⟨rfl, hb2⟩
        have HB2 : Hid (Below w.heap.size w w2) := HB1.out.trans (hb2.mono HB1.out.size)
        have HO2 := Lib.hid (HO.out.on hb2)
        clear hb2 q0 q1 hcells
        go_wp2
        go_roundw
        case rel => exact ⟨i + 1, ys, HI.out, by go_num, HN0, HO2, HB2⟩
        case measure => have := HI.out; simp [intOf]; omega
    · obtain rfl : m = i := by omega
      have hiz : ¬ (m : Int) < (m : Int) := by omega
      have HZ : Hid (ys.length ≤ 16384) := Nat.le_trans HYS.out HP.out
      go_wp2
      go_ret
      exact SpPost.of HZ.out HO.out HB1.out
set_option maxHeartbeats 2000000 in
set_option maxRecDepth 100000 in
theorem covers_any (A : Option Addr) (n c : Nat) (l : List (Int × Int)) (a b : Int) (w : World) (hl : SpR w w.heap.size A n l) (hn : n ≤ 14) :
    Calls Tryz.prog 86 #[.slice A n c, .agg #[.int .i64 a, .int .i64 b]] w (BoolIf (fun _ => True) w) := by
  have HL := Lib.hid fun (W : World) (hW : Below w.heap.size w W) => hl.on hW
  obtain ⟨W0, hW0⟩ : ∃ W0, w.alloc (.cells #[.int .i64 a, .int .i64 b] 56) = W0 := ⟨_, rfl⟩
  have HB0 : Hid (Below w.heap.size w W0) := by rw [← hW0]; exact (Below.refl _ w).alloc (Nat.le_refl _) _
  have hz : W0.heap.size = w.heap.size + 1 := by rw [← hW0]; simp
  have HK : Hid (∀ X, Below W0.heap.size W0 X → X.cell? ⟨w.heap.size, 0, none⟩ = some (.int .i64 a) ∧ X.cell? ⟨w.heap.size, 1, none⟩ = some (.int .i64 b)) := fun X hX => by
    refine ⟨?_, ?_⟩
    · rw [hX.cell (by show w.heap.size < _; omega), ← hW0, World.cell?_alloc_new]; rfl
    · rw [hX.cell (by show w.heap.size < _; omega), ← hW0, World.cell?_alloc_new]; rfl
  have HRS := Lib.hid (right09_any a b W0)
  obtain ⟨rb, hrb⟩ : ∃ rb, rightS a b = rb := ⟨_, rfl⟩
  rw [hrb] at HRS
  clear hl hrb
  go_enter Tryz.func86, Tryz.ntmps86
  go_upto_region 1 with fail
  (try rw [hW0])
  clear hW0
  obtain ⟨k0, k1⟩ := HK.out W0 (Below.refl _ _)
  cases rb with
  | false =>
    go_wp2_with fail
    refine HRS.out.mono ?_
    rintro e w2 ⟨rfl, hb2⟩
    have HB2 : Hid (Below w.heap.size w w2) := HB0.out.trans (hb2.mono HB0.out.size)
    clear hb2 k0 k1
    go_wp2
    go_ret
    exact BoolIf.of false trivial HB2.out
  | true =>
    go_wp2_with fail
    refine HRS.out.mono ?_
    rintro e w2 ⟨rfl, hb2⟩
    have HB2 : Hid (Below w.heap.size w w2) := HB0.out.trans (hb2.mono HB0.out.size)
    have HB02 : Hid (Below W0.heap.size W0 w2) := hb2
    clear hb2 k0 k1
    obtain ⟨k0, k1⟩ := HK.out w2 HB02.out
    obtain ⟨w3, hw3⟩ : ∃ w3, w2.alloc (.cells #[.int .i64 a, .int .i64 b] 56) = w3 := ⟨_, rfl⟩
    have HB23 : Hid (Below w2.heap.size w2 w3) := by rw [← hw3]; exact (Below.refl _ w2).alloc (Nat.le_refl _) _
    have HB3 : Hid (Below w.heap.size w w3) := HB2.out.trans (HB23.out.mono HB2.out.size)
    have HA : Hid (SpR w3 w3.heap.size (some ⟨w2.heap.size, 0, none⟩) 1 [(a, b)]) := by
      refine ⟨⟨rfl, fun _ => ⟨_, rfl, by rw [← hw3]; simp, fun j u hu => ?_⟩⟩, rfl⟩
      rw [← hw3, Addr.add_mid, Nat.zero_add, World.cell?_alloc_new, ← hu, ← List.getElem?_toArray]
      rfl
    have HM := Lib.hid (minus_any (some ⟨w2.heap.size, 0, none⟩) A 1 n c a b l w3 HA.out (HL.out w3 HB3.out) hn)
    go_wp2_with fail
    (try rw [hw3])
    clear hw3
    refine HM.out.mono ?_
    rintro e w4 ⟨v, zs, rfl, hzs, ho, hb⟩
    obtain ⟨A5, c5, rfl, _, _, _⟩ := SpO.form ho
    have HB4 : Hid (Below w.heap.size w w4) := HB3.out.trans (hb.mono HB3.out.size)
    clear ho hb k0 k1 HM
    by_cases h0 : zs.length = 0
    · have h1 : ((zs.length : Int) == 0) = true := by rw [beq_iff_eq]; omega
      go_wp2
      go_ret
      exact BoolIf.of _ trivial HB4.out
    · have h1 : ((zs.length : Int) == 0) = false := by rw [beq_eq_false_iff_ne]; omega
      go_wp2
      go_ret
      exact BoolIf.of _ trivial HB4.out
end Go.Proofs.YthcabnfcgjnlnaaGreatDoor
/-
  The reference's check of the note with an index.
-/
namespace Go.Proofs.YthcabnfcgjnlnaaGreatDoor
open Go.RowKit Ru Lay
attribute [local go_sem ↓] Go.wp_at_zero Go.wp_at_succ
set_option linter.unusedVariables false
set_option linter.unusedSimpArgs false

set_option maxHeartbeats 4000000 in
set_option maxRecDepth 100000 in
theorem noteError_any (d : Dv) (T : List Ti) (l : List Nt) (i : Nat) (w : World) (hT : TiersR w w.heap.size d.ta d.tn T) (hl : NotesR w w.heap.size d.na d.nn l) (hn : d.nn ≤ 9223372036854775807) (ht : d.tn ≤ 9223372036854775807) (hi : i < d.nn) :
    Calls Tryz.prog 55 #[docV d, .int .i64 i] w fun e w' => ∃ r : Int, e = .returned (.int .i64 r) ∧ (r = 0 → NOk T l i) ∧ Below w.heap.size w w' := by
  have HTL := Lib.hid hT.len
  have HPL := Lib.hid fun (x : Nt) (W : World) (hW : Below w.heap.size w W) (hx : 0 ≤ x.tier ∧ x.tier < (d.tn : Int)) => placed_any d T l x W (hT.on hW) (hl.on hW) hn hx
  obtain ⟨ad, x, hna, hab, hx, hcells⟩ := hl.at_ hi
  have HPREV : Hid (0 < i → ∃ y, l[i - 1]? = some y ∧ ∀ W, Below w.heap.size w W → W.cell? (ad.add ((i - 1) * 7)) = some (.int .i64 y.nid)) := fun h0 => by
    obtain ⟨ad', y, hna', _, hy, hc⟩ := hl.at_ (k := i - 1) (by omega)
    rw [hna] at hna'
    cases hna'
    exact ⟨y, hy, fun W hW => (hc W hW).1⟩
  have HX := Lib.hid hx
  have HCE := Lib.hid hcells
  have HTX := Lib.hid fun W => text12_any x.text W
  unfold docV at HPL
  unfold docV
  obtain ⟨rid, name, len, day, sa, sn, sc, ta, tn, tc, na, nn, nc⟩ := d
  simp only at *
  subst hna
  clear hT hl hx hcells
  have hiz : (i : Int) < (nn : Int) := by omega
  have hiA : (0 : Int) ≤ (i : Int) := by omega
  have hin : i < nn := hi
  go_enter Tryz.func55, Tryz.ntmps55
  go_upto_region 1 with fail
  obtain ⟨W1, hW1⟩ : ∃ W1, (w.alloc (.cells #[.int .i64 rid, .string name, .int .i64 len, .int .i64 day, .slice sa sn sc, .slice ta tn tc, .slice (some ad) nn nc] 38)) = W1 := ⟨_, rfl⟩
  have HB1 : Hid (Below w.heap.size w W1) := by rw [← hW1]; exact ((Below.refl _ _).alloc (by simp <;> omega) _)
  have hz1 : W1.heap.size = w.heap.size + 1 := by rw [← hW1]; simp
  have HC1 : Hid (∀ X, Below W1.heap.size W1 X → X.rangeAt (w.heap.size) 0 [.int .i64 rid, .string name, .int .i64 len, .int .i64 day, .slice sa sn sc, .slice ta tn tc, .slice (some ad) nn nc]) := fun X hX => by
    refine range_below hX (by omega) fun j v hv => ?_
    rw [← hW1, Nat.zero_add]; rw [World.cell?_alloc_at _ _ _ _ (by simp), ← hv, ← List.getElem?_toArray]; try rfl
  (try rw [hW1])
  clear hW1
  obtain ⟨q0, q1, q2, q3, q4, q5, q6⟩ := HCE.out W1 HB1.out
  have g0 := HC1.out W1 (Below.refl _ _)
  have k5 : W1.cell? ⟨w.heap.size, 5, none⟩ = some (.slice ta tn tc) := g0 5 _ rfl
  have k6 : W1.cell? ⟨w.heap.size, 6, none⟩ = some (.slice (some ad) nn nc) := g0 6 _ rfl
  clear g0
  go_upto_region 2 with fail
  obtain ⟨W2, hW20⟩ : ∃ W2, (W1.alloc (.cells #[.int .i64 x.nid, .int .i64 x.tier, .int .i64 x.parent, .int .i64 x.at1, .int .i64 x.at2, .int .i64 x.rank, .string x.text] 58)) = W2 := ⟨_, rfl⟩
  have HB20 : Hid (Below W1.heap.size W1 W2) := by rw [← hW20]; exact ((Below.refl _ _).alloc (by simp <;> omega) _)
  have hz20 : W2.heap.size = W1.heap.size + 1 := by rw [← hW20]; simp
  have HC20 : Hid (∀ X, Below W2.heap.size W2 X → X.rangeAt (W1.heap.size) 0 [.int .i64 x.nid, .int .i64 x.tier, .int .i64 x.parent, .int .i64 x.at1, .int .i64 x.at2, .int .i64 x.rank, .string x.text]) := fun X hX => by
    refine range_below hX (by omega) fun j v hv => ?_
    rw [← hW20, Nat.zero_add]; rw [World.cell?_alloc_at _ _ _ _ (by simp), ← hv, ← List.getElem?_toArray]; try rfl
  (try rw [hW20])
  clear hW20
  have HB2 : Hid (Below w.heap.size w W2) := HB1.out.trans (HB20.out.mono HB1.out.size)
  have HC2 : Hid (∀ X, Below W2.heap.size W2 X → X.rangeAt w.heap.size 0 [.int .i64 rid, .string name, .int .i64 len, .int .i64 day, .slice sa sn sc, .slice ta tn tc, .slice (some ad) nn nc] ∧ X.rangeAt (w.heap.size + 1) 0 [.int .i64 x.nid, .int .i64 x.tier, .int .i64 x.parent, .int .i64 x.at1, .int .i64 x.at2, .int .i64 x.rank, .string x.text]) := fun X hX => by
    exact ⟨HC1.out X (HB20.out.trans (hX.mono HB20.out.size)), by rw [← hz1]; exact HC20.out X hX⟩
  clear q0 q1 q2 q3 q4 q5 q6 k5 k6
  obtain ⟨g0, g1⟩ := HC2.out W2 (Below.refl _ _)
  have k5 : W2.cell? ⟨w.heap.size, 5, none⟩ = some (.slice ta tn tc) := g0 5 _ rfl
  have k6 : W2.cell? ⟨w.heap.size, 6, none⟩ = some (.slice (some ad) nn nc) := g0 6 _ rfl
  have m0 : W2.cell? ⟨w.heap.size + 1, 0, none⟩ = some (.int .i64 x.nid) := g1 0 _ rfl
  have m1 : W2.cell? ⟨w.heap.size + 1, 1, none⟩ = some (.int .i64 x.tier) := g1 1 _ rfl
  clear g0 g1
  by_cases a0 : x.nid < 1
  · have a1 : decide (x.nid < 1) = true := decide_eq_true a0
    go_wp2
    go_ret
    exact ⟨2, rfl, fun h => absurd h (by decide), HB2.out⟩
  · have a1 : decide (x.nid < 1) = false := decide_eq_false a0
    by_cases a2 : 1099511627776 < x.nid
    · have a3 : decide (x.nid > 1099511627776) = true := decide_eq_true a2
      have a3' : decide (1099511627776 < x.nid) = true := decide_eq_true a2
      go_wp2
      go_ret
      exact ⟨2, rfl, fun h => absurd h (by decide), HB2.out⟩
    · have a3 : decide (x.nid > 1099511627776) = false := decide_eq_false a2
      have a3' : decide (1099511627776 < x.nid) = false := decide_eq_false a2
      have HA : Hid (1 ≤ x.nid) := by show _ ≤ _; omega
      clear a0 a2
      by_cases i0 : 0 < i
      · obtain ⟨y, hy, hyc⟩ := HPREV.out i0
        have HY := Lib.hid hy
        have r0 := hyc W2 HB2.out
        have HI0 := Lib.hid i0
        have i0z : decide ((i : Int) > 0) = true := decide_eq_true (by omega)
        have i0z' : decide ((0 : Int) < (i : Int)) = true := decide_eq_true (by omega)
        obtain ⟨p, hp⟩ : ∃ p, i - 1 = p := ⟨_, rfl⟩
        rw [hp] at r0
        have HPI := Lib.hid hp
        have hip : i = p + 1 := by omega
        have zp : (i : Int) - 1 = (p : Int) := by omega
        have zp1 : IntKind.i64.wrap ((i : Int) - 1) = (p : Int) := by rw [IntKind.wrap_i64]; omega
        have zp2 : IntKind.i64.wrap (p : Int) = (p : Int) := by rw [IntKind.wrap_i64]; omega
        have zpn : (p : Int) < (nn : Int) := by omega
        have zpA : (0 : Int) ≤ (p : Int) := by omega
        have hpi : p = i - 1 := by omega
        clear hy hyc hp hip hpi
        by_cases b0 : x.nid ≤ y.nid
        · have b1 : decide (x.nid ≤ y.nid) = true := decide_eq_true b0
          go_wp2_with fail
          go_quiet (fail)
          have HB3 : Hid (Below w.heap.size w (W2.drewN nq)) := below_drewN HB2.out nq
          go_wp2
          go_ret
          exact ⟨10, rfl, fun h => absurd h (by decide), HB3.out⟩
        · have b1 : decide (x.nid ≤ y.nid) = false := decide_eq_false b0
          have HPV : Hid (∀ y, 0 < i → l[i - 1]? = some y → y.nid < x.nid) := fun z _ hz => by
            rw [HY.out] at hz
            cases hz
            omega
          go_wp2_with fail
          go_quiet (fail)
          clear r0 b0 zp zp1 zp2 zpn zpA i0z i0z' i0 b1
          have HB3 : Hid (Below w.heap.size w (W2.drewN nq)) := below_drewN HB2.out nq
          have HB23 : Hid (Below W2.heap.size W2 (W2.drewN nq)) := below_drewN (Below.refl _ _) nq
          obtain ⟨W3, hW3⟩ : ∃ W3, W2.drewN nq = W3 := ⟨_, rfl⟩
          rw [hW3] at HB3 HB23 ⊢
          clear hW3 k5 k6 m0 m1
          obtain ⟨g0, g1⟩ := HC2.out W3 HB23.out
          have k5 : W3.cell? ⟨w.heap.size, 5, none⟩ = some (.slice ta tn tc) := g0 5 _ rfl
          have k6 : W3.cell? ⟨w.heap.size, 6, none⟩ = some (.slice (some ad) nn nc) := g0 6 _ rfl
          have m1 : W3.cell? ⟨w.heap.size + 1, 1, none⟩ = some (.int .i64 x.tier) := g1 1 _ rfl
          have m6 : W3.cell? ⟨w.heap.size + 1, 6, none⟩ = some (.string x.text) := g1 6 _ rfl
          clear g0 g1
          by_cases c0 : x.tier < 0
          · have c1 : decide (x.tier < 0) = true := decide_eq_true c0
            go_wp2
            go_ret
            exact ⟨2, rfl, fun h => absurd h (by decide), HB3.out⟩
          · have c1 : decide (x.tier < 0) = false := decide_eq_false c0
            by_cases c2 : (tn : Int) ≤ x.tier
            · have c3 : decide (x.tier ≥ (tn : Int)) = true := decide_eq_true c2
              have c3' : decide ((tn : Int) ≤ x.tier) = true := decide_eq_true c2
              go_wp2
              go_ret
              exact ⟨2, rfl, fun h => absurd h (by decide), HB3.out⟩
            · have c3 : decide (x.tier ≥ (tn : Int)) = false := decide_eq_false c2
              have c3' : decide ((tn : Int) ≤ x.tier) = false := decide_eq_false c2
              have HTR : Hid (0 ≤ x.tier ∧ x.tier < (tn : Int)) := by show _ ∧ _; omega
              clear c0 c2
              go_wp2_with fail
              refine (HTX.out W3).mono ?_
              rintro e w4 ⟨r, rfl, hsz, hb4⟩
              have HSZ := Lib.hid hsz
              clear hsz
              have HB4 : Hid (Below w.heap.size w w4) := HB3.out.trans (hb4.mono HB3.out.size)
              have HB24 : Hid (Below W2.heap.size W2 w4) := HB23.out.trans (hb4.mono HB23.out.size)
              clear hb4 k5 k6 m1 m6 c1 c3 c3'
              by_cases r0 : r = 0
              · subst r0
                obtain ⟨g0, g1⟩ := HC2.out w4 HB24.out
                have k0 : w4.cell? ⟨w.heap.size, 0, none⟩ = some (.int .i64 rid) := g0 0 _ rfl
                have k1 : w4.cell? ⟨w.heap.size, 1, none⟩ = some (.string name) := g0 1 _ rfl
                have k2 : w4.cell? ⟨w.heap.size, 2, none⟩ = some (.int .i64 len) := g0 2 _ rfl
                have k3 : w4.cell? ⟨w.heap.size, 3, none⟩ = some (.int .i64 day) := g0 3 _ rfl
                have k4 : w4.cell? ⟨w.heap.size, 4, none⟩ = some (.slice sa sn sc) := g0 4 _ rfl
                have k5 : w4.cell? ⟨w.heap.size, 5, none⟩ = some (.slice ta tn tc) := g0 5 _ rfl
                have k6 : w4.cell? ⟨w.heap.size, 6, none⟩ = some (.slice (some ad) nn nc) := g0 6 _ rfl
                have m0 : w4.cell? ⟨w.heap.size + 1, 0, none⟩ = some (.int .i64 x.nid) := g1 0 _ rfl
                have m1 : w4.cell? ⟨w.heap.size + 1, 1, none⟩ = some (.int .i64 x.tier) := g1 1 _ rfl
                have m2 : w4.cell? ⟨w.heap.size + 1, 2, none⟩ = some (.int .i64 x.parent) := g1 2 _ rfl
                have m3 : w4.cell? ⟨w.heap.size + 1, 3, none⟩ = some (.int .i64 x.at1) := g1 3 _ rfl
                have m4 : w4.cell? ⟨w.heap.size + 1, 4, none⟩ = some (.int .i64 x.at2) := g1 4 _ rfl
                have m5 : w4.cell? ⟨w.heap.size + 1, 5, none⟩ = some (.int .i64 x.rank) := g1 5 _ rfl
                have m6 : w4.cell? ⟨w.heap.size + 1, 6, none⟩ = some (.string x.text) := g1 6 _ rfl
                clear g0 g1
                have HP := Lib.hid (HPL.out x w4 HB4.out HTR.out)
                unfold noteV at HP
                go_wp2_with fail
                refine HP.out.mono ?_
                rintro e w5 ⟨r, rfl, hr, hb5⟩
                have HR := Lib.hid hr
                have HB5 : Hid (Below w.heap.size w w5) := HB4.out.trans (hb5.mono HB4.out.size)
                clear hb5 hr
                have HF : Hid (r = 0 → NOk T l i) := fun h z hz => by
                  rw [HX.out] at hz
                  cases hz
                  exact ⟨HA.out, HPV.out, by rw [HTL.out]; exact HTR.out, HR.out h, (by first | exact HSZ.out rfl | exact HSZ.out trivial | exact HSZ.out)⟩
                go_wp2
                go_ret
                exact ⟨r, rfl, HF.out, HB5.out⟩
              · have rb : (r != 0) = true := bne_iff_ne.2 r0
                have HR0 := Lib.hid r0
                clear r0
                go_wp2
                go_ret
                exact ⟨r, rfl, fun h => absurd h HR0.out, HB4.out⟩
      · have i0z : decide ((i : Int) > 0) = false := decide_eq_false (by omega)
        have i0z' : decide ((0 : Int) < (i : Int)) = false := decide_eq_false (by omega)
        have i0n : decide (0 < i) = false := decide_eq_false i0
        have HPV : Hid (∀ y, 0 < i → l[i - 1]? = some y → y.nid < x.nid) := fun z h _ => absurd h i0
        have i00 := Lib.hid i0
        clear i0
        go_wp2_with fail
        go_quiet (fail)
        clear i0z i0z' i0n
        have HB3 : Hid (Below w.heap.size w (W2.drewN nq)) := below_drewN HB2.out nq
        have HB23 : Hid (Below W2.heap.size W2 (W2.drewN nq)) := below_drewN (Below.refl _ _) nq
        obtain ⟨W3, hW3⟩ : ∃ W3, W2.drewN nq = W3 := ⟨_, rfl⟩
        rw [hW3] at HB3 HB23 ⊢
        clear hW3 k5 k6 m0 m1
        obtain ⟨g0, g1⟩ := HC2.out W3 HB23.out
        have k5 : W3.cell? ⟨w.heap.size, 5, none⟩ = some (.slice ta tn tc) := g0 5 _ rfl
        have k6 : W3.cell? ⟨w.heap.size, 6, none⟩ = some (.slice (some ad) nn nc) := g0 6 _ rfl
        have m1 : W3.cell? ⟨w.heap.size + 1, 1, none⟩ = some (.int .i64 x.tier) := g1 1 _ rfl
        have m6 : W3.cell? ⟨w.heap.size + 1, 6, none⟩ = some (.string x.text) := g1 6 _ rfl
        clear g0 g1
        by_cases c0 : x.tier < 0
        · have c1 : decide (x.tier < 0) = true := decide_eq_true c0
          go_wp2
          go_ret
          exact ⟨2, rfl, fun h => absurd h (by decide), HB3.out⟩
        · have c1 : decide (x.tier < 0) = false := decide_eq_false c0
          by_cases c2 : (tn : Int) ≤ x.tier
          · have c3 : decide (x.tier ≥ (tn : Int)) = true := decide_eq_true c2
            have c3' : decide ((tn : Int) ≤ x.tier) = true := decide_eq_true c2
            go_wp2
            go_ret
            exact ⟨2, rfl, fun h => absurd h (by decide), HB3.out⟩
          · have c3 : decide (x.tier ≥ (tn : Int)) = false := decide_eq_false c2
            have c3' : decide ((tn : Int) ≤ x.tier) = false := decide_eq_false c2
            have HTR : Hid (0 ≤ x.tier ∧ x.tier < (tn : Int)) := by show _ ∧ _; omega
            clear c0 c2
            go_wp2_with fail
            refine (HTX.out W3).mono ?_
            rintro e w4 ⟨r, rfl, hsz, hb4⟩
            have HSZ := Lib.hid hsz
            clear hsz
            have HB4 : Hid (Below w.heap.size w w4) := HB3.out.trans (hb4.mono HB3.out.size)
            have HB24 : Hid (Below W2.heap.size W2 w4) := HB23.out.trans (hb4.mono HB23.out.size)
            clear hb4 k5 k6 m1 m6 c1 c3 c3'
            by_cases r0 : r = 0
            · subst r0
              obtain ⟨g0, g1⟩ := HC2.out w4 HB24.out
              have k0 : w4.cell? ⟨w.heap.size, 0, none⟩ = some (.int .i64 rid) := g0 0 _ rfl
              have k1 : w4.cell? ⟨w.heap.size, 1, none⟩ = some (.string name) := g0 1 _ rfl
              have k2 : w4.cell? ⟨w.heap.size, 2, none⟩ = some (.int .i64 len) := g0 2 _ rfl
              have k3 : w4.cell? ⟨w.heap.size, 3, none⟩ = some (.int .i64 day) := g0 3 _ rfl
              have k4 : w4.cell? ⟨w.heap.size, 4, none⟩ = some (.slice sa sn sc) := g0 4 _ rfl
              have k5 : w4.cell? ⟨w.heap.size, 5, none⟩ = some (.slice ta tn tc) := g0 5 _ rfl
              have k6 : w4.cell? ⟨w.heap.size, 6, none⟩ = some (.slice (some ad) nn nc) := g0 6 _ rfl
              have m0 : w4.cell? ⟨w.heap.size + 1, 0, none⟩ = some (.int .i64 x.nid) := g1 0 _ rfl
              have m1 : w4.cell? ⟨w.heap.size + 1, 1, none⟩ = some (.int .i64 x.tier) := g1 1 _ rfl
              have m2 : w4.cell? ⟨w.heap.size + 1, 2, none⟩ = some (.int .i64 x.parent) := g1 2 _ rfl
              have m3 : w4.cell? ⟨w.heap.size + 1, 3, none⟩ = some (.int .i64 x.at1) := g1 3 _ rfl
              have m4 : w4.cell? ⟨w.heap.size + 1, 4, none⟩ = some (.int .i64 x.at2) := g1 4 _ rfl
              have m5 : w4.cell? ⟨w.heap.size + 1, 5, none⟩ = some (.int .i64 x.rank) := g1 5 _ rfl
              have m6 : w4.cell? ⟨w.heap.size + 1, 6, none⟩ = some (.string x.text) := g1 6 _ rfl
              clear g0 g1
              have HP := Lib.hid (HPL.out x w4 HB4.out HTR.out)
              unfold noteV at HP
              go_wp2_with fail
              refine HP.out.mono ?_
              rintro e w5 ⟨r, rfl, hr, hb5⟩
              have HR := Lib.hid hr
              have HB5 : Hid (Below w.heap.size w w5) := HB4.out.trans (hb5.mono HB4.out.size)
              clear hb5 hr
              have HF : Hid (r = 0 → NOk T l i) := fun h z hz => by
                rw [HX.out] at hz
                cases hz
                exact ⟨HA.out, HPV.out, by rw [HTL.out]; exact HTR.out, HR.out h, (by first | exact HSZ.out rfl | exact HSZ.out trivial | exact HSZ.out)⟩
              go_wp2
              go_ret
              exact ⟨r, rfl, HF.out, HB5.out⟩
            · have rb : (r != 0) = true := bne_iff_ne.2 r0
              have HR0 := Lib.hid r0
              clear r0
              go_wp2
              go_ret
              exact ⟨r, rfl, fun h => absurd h HR0.out, HB4.out⟩
end Go.Proofs.YthcabnfcgjnlnaaGreatDoor
