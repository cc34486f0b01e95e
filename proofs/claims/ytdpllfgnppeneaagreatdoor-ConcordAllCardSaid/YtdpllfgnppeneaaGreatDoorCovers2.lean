/-
  Covers returns: Minus, Covers.
-/
import Derived.Test.YtdpllfgnppeneaaGreatDoorWithout
namespace Go.Proofs.YtdpllfgnppeneaaGreatDoor
open Go.RowKit Ru Lay
attribute [local go_sem ↓] Go.wp_at_zero Go.wp_at_succ
set_option linter.unusedVariables false
set_option linter.unusedSimpArgs false

set_option maxHeartbeats 2000000 in
set_option maxRecDepth 100000 in
theorem minus_any (A A2 : Option Addr) (c m c2 : Nat) (a b : Int) (l : List (Int × Int)) (w : World) (ha : SpR w w.heap.size A 1 [(a, b)]) (hl : SpR w w.heap.size A2 m l) (hm : m ≤ 14) :
    Calls Tryz.prog 72 #[.slice A 1 c, .slice A2 m c2] w (SpPost 16384 w) := by
  have HL := Lib.hid hl
  have HU := Lib.hid (union_one A c a b w ha)
  clear ha hl
  go_enter Tryz.func72, Tryz.ntmps72
  go_wp2_with fail
  refine HU.out.mono ?_
  rintro e w1 ⟨v, ys0, rfl, hy0, ho0, hb0⟩
  have HO0 := Lib.hid ho0
  have HB0 := Lib.hid hb0
  have HY0 : Hid (ys0.length ≤ 2 ^ 0) := hy0
  clear hy0 ho0 hb0 HU
  go_wp2_with fail
  go_loopw [5, 6] (fun v5 v6 wr => ∃ (i : Nat) (ys : List (Int × Int)), i ≤ m ∧ v6 = .int .i64 i ∧ Hid (ys.length ≤ 2 ^ i) ∧ Hid (SpO wr w.heap.size v5 ys) ∧ Hid (Below w.heap.size w wr)) (fun _ v6 _ => m - (intOf v6).toNat)
  case atStart => exact ⟨0, ys0, Nat.zero_le _, rfl, HY0, HO0, HB0⟩
  case round =>
    clear HO0 HB0 HY0
    obtain ⟨i, ys, hi, rfl, HYS, HO, HB1⟩ := hrel
    obtain ⟨w0, hw0⟩ : ∃ w0, wr = w0 := ⟨_, rfl⟩
    rw [hw0] at HO HB1 ⊢
    clear hw0
    have HP : Hid (2 ^ i ≤ 16384) := Nat.le_trans (Nat.pow_le_pow_right (by omega) (show i ≤ 14 by omega)) (by decide)
    by_cases hlt : i < m
    · have hiz : (i : Int) < (m : Int) := by omega
      have hiA : (0 : Int) ≤ (i : Int) := by omega
      have HI := Lib.hid hlt
      obtain ⟨ad, x, rfl, hab, hx, hcells⟩ := HL.out.at_ hlt
      obtain ⟨q0, q1⟩ := hcells w0 HB1.out
      obtain ⟨A3, c3, rfl, _, _, _⟩ := HO.out.form
      have HRS := Lib.hid (right09_any x.1 x.2 w0)
      obtain ⟨rb, hrb⟩ : ∃ rb, rightS x.1 x.2 = rb := ⟨_, rfl⟩
      rw [hrb] at HRS
      have HN : Hid (2 * ys.length ≤ 2 ^ (i + 1)) := by show _ ≤ _; rw [Nat.pow_succ]; have := HYS.out; omega
      have HN0 : Hid (ys.length ≤ 2 ^ (i + 1)) := by show _ ≤ _; have := HN.out; omega
      clear hrb hx
      cases rb with
      | true =>
        go_wp2_with fail
        refine HRS.out.mono ?_
        rintro e w2 ⟨rfl, hb2⟩
        have HB2 : Hid (Below w.heap.size w w2) := HB1.out.trans (hb2.mono HB1.out.size)
        have HO2 := Lib.hid (HO.out.on hb2)
        clear hb2 q0 q1
        obtain ⟨q0, q1⟩ := hcells w2 HB2.out
        obtain ⟨A4, c4, hv4, _, _, hr4⟩ := HO2.out.form
        cases hv4
        have HW := Lib.hid (without_any A3 ys.length c3 ys x.1 x.2 w2 hr4 (by have := HYS.out; have := HP.out; omega))
        clear hr4 hcells HO
        go_wp2_with fail
        refine HW.out.mono ?_
        rintro e w3 ⟨v, zs, rfl, hz, ho, hb⟩
        have HO3 : Hid (SpO w3 w.heap.size v zs) := own_base ho HB2.out.size
        have HB3 : Hid (Below w.heap.size w w3) := HB2.out.trans (hb.mono HB2.out.size)
        have HZ : Hid (zs.length ≤ 2 ^ (i + 1)) := Nat.le_trans hz HN.out
        clear ho hb hz q0 q1
        go_wp2
        go_roundw
        case rel => exact ⟨i + 1, zs, HI.out, by go_num, HZ, HO3, HB3⟩
        case measure => have := HI.out; simp [intOf]; omega
      | false =>
        go_wp2_with fail
        refine HRS.out.mono ?_
        rintro e w2 ⟨rfl, hb2⟩
        have HB2 : Hid (Below w.heap.size w w2) := HB1.out.trans (hb2.mono HB1.out.size)
        have HO2 := Lib.hid (HO.out.on hb2)
        clear hb2 q0 q1 hcells
        go_wp2
        go_roundw
        case rel => exact ⟨i + 1, ys, HI.out, by go_num, HN0, HO2, HB2⟩
        case measure => have := HI.out; simp [intOf]; omega
    · obtain rfl : m = i := by omega
      have hiz : ¬ (m : Int) < (m : Int) := by omega
      have HZ : Hid (ys.length ≤ 16384) := Nat.le_trans HYS.out HP.out
      go_wp2
      go_ret
      exact SpPost.of HZ.out HO.out HB1.out
set_option maxHeartbeats 2000000 in
set_option maxRecDepth 100000 in
theorem covers_any (A : Option Addr) (n c : Nat) (l : List (Int × Int)) (a b : Int) (w : World) (hl : SpR w w.heap.size A n l) (hn : n ≤ 14) :
    Calls Tryz.prog 44 #[.slice A n c, .agg #[.int .i64 a, .int .i64 b]] w (BoolIf (fun _ => True) w) := by
  have HL := Lib.hid fun (W : World) (hW : Below w.heap.size w W) => hl.on hW
  obtain ⟨W0, hW0⟩ : ∃ W0, w.alloc (.cells #[.int .i64 a, .int .i64 b] 56) = W0 := ⟨_, rfl⟩
  have HB0 : Hid (Below w.heap.size w W0) := by rw [← hW0]; exact (Below.refl _ w).alloc (Nat.le_refl _) _
  have hz : W0.heap.size = w.heap.size + 1 := by rw [← hW0]; simp
  have HK : Hid (∀ X, Below W0.heap.size W0 X → X.cell? ⟨w.heap.size, 0, none⟩ = some (.int .i64 a) ∧ X.cell? ⟨w.heap.size, 1, none⟩ = some (.int .i64 b)) := fun X hX => by
    refine ⟨?_, ?_⟩
    · rw [hX.cell (by show w.heap.size < _; omega), ← hW0, World.cell?_alloc_new]; rfl
    · rw [hX.cell (by show w.heap.size < _; omega), ← hW0, World.cell?_alloc_new]; rfl
  have HRS := Lib.hid (right09_any a b W0)
  obtain ⟨rb, hrb⟩ : ∃ rb, rightS a b = rb := ⟨_, rfl⟩
  rw [hrb] at HRS
  clear hl hrb
  go_enter Tryz.func44, Tryz.ntmps44
  go_upto_region 1 with fail
  (try rw [hW0])
  clear hW0
  obtain ⟨k0, k1⟩ := HK.out W0 (Below.refl _ _)
  cases rb with
  | false =>
    go_wp2_with fail
    refine HRS.out.mono ?_
    rintro e w2 ⟨rfl, hb2⟩
    have HB2 : Hid (Below w.heap.size w w2) := HB0.out.trans (hb2.mono HB0.out.size)
    clear hb2 k0 k1
    go_wp2
    go_ret
    exact BoolIf.of false trivial HB2.out
  | true =>
    go_wp2_with fail
    refine HRS.out.mono ?_
    rintro e w2 ⟨rfl, hb2⟩
    have HB2 : Hid (Below w.heap.size w w2) := HB0.out.trans (hb2.mono HB0.out.size)
    have HB02 : Hid (Below W0.heap.size W0 w2) := hb2
    clear hb2 k0 k1
    obtain ⟨k0, k1⟩ := HK.out w2 HB02.out
    obtain ⟨w3, hw3⟩ : ∃ w3, w2.alloc (.cells #[.int .i64 a, .int .i64 b] 56) = w3 := ⟨_, rfl⟩
    have HB23 : Hid (Below w2.heap.size w2 w3) := by rw [← hw3]; exact (Below.refl _ w2).alloc (Nat.le_refl _) _
    have HB3 : Hid (Below w.heap.size w w3) := HB2.out.trans (HB23.out.mono HB2.out.size)
    have HA : Hid (SpR w3 w3.heap.size (some ⟨w2.heap.size, 0, none⟩) 1 [(a, b)]) := by
      refine ⟨⟨rfl, fun _ => ⟨_, rfl, by rw [← hw3]; simp, fun j u hu => ?_⟩⟩, rfl⟩
      rw [← hw3, Addr.add_mid, Nat.zero_add, World.cell?_alloc_new, ← hu, ← List.getElem?_toArray]
      rfl
    have HM := Lib.hid (minus_any (some ⟨w2.heap.size, 0, none⟩) A 1 n c a b l w3 HA.out (HL.out w3 HB3.out) hn)
    go_wp2_with fail
    (try rw [hw3])
    clear hw3
    refine HM.out.mono ?_
    rintro e w4 ⟨v, zs, rfl, hzs, ho, hb⟩
    obtain ⟨A5, c5, rfl, _, _, _⟩ := SpO.form ho
    have HB4 : Hid (Below w.heap.size w w4) := HB3.out.trans (hb.mono HB3.out.size)
    clear ho hb k0 k1 HM
    by_cases h0 : zs.length = 0
    · have h1 : ((zs.length : Int) == 0) = true := by rw [beq_iff_eq]; omega
      go_wp2
      go_ret
      exact BoolIf.of _ trivial HB4.out
    · have h1 : ((zs.length : Int) == 0) = false := by rw [beq_eq_false_iff_ne]; omega
      go_wp2
      go_ret
      exact BoolIf.of _ trivial HB4.out
end Go.Proofs.YtdpllfgnppeneaaGreatDoor
