/-
  Covers returns: without.
-/
import Derived.Test.YtdpllfgnppeneaaGreatDoorCovers
import Derived.Test.YtdpllfgnppeneaaGreatDoorG13
import Derived.Deep.Cut
import Derived.Deep.CutRange
namespace Go.Proofs.YtdpllfgnppeneaaGreatDoor
open Go.RowKit Ru Lay
attribute [local go_sem ↓] Go.wp_at_zero Go.wp_at_succ
set_option linter.unusedVariables false
set_option linter.unusedSimpArgs false

set_option maxHeartbeats 4000000 in
set_option maxRecDepth 100000 in
theorem without_any (A : Option Addr) (n c : Nat) (l : List (Int × Int)) (a b : Int) (w : World) (hl : SpR w w.heap.size A n l) (hn : n ≤ 1000000) :
    Calls Tryz.prog 90 #[.slice A n c, .agg #[.int .i64 a, .int .i64 b]] w (SpPost (2 * n) w) := by
  have HL := Lib.hid hl
  clear hl
  obtain ⟨W0, hW0⟩ : ∃ W0, (w.alloc (.cells #[.int .i64 a, .int .i64 b] 56)).alloc (.cells #[] 56) = W0 := ⟨_, rfl⟩
  have HB0 : Hid (Below w.heap.size w W0) := by rw [← hW0]; exact ((Below.refl _ w).alloc (Nat.le_refl _) _).alloc (by simp) _
  have hz : W0.heap.size = w.heap.size + 2 := by rw [← hW0]; simp
  have HO1 : Hid (SpO W0 (w.heap.size + 1) (.slice (some ⟨w.heap.size + 1, 0, none⟩) 0 0) []) := by
    have h := sp_made (w.alloc (.cells #[.int .i64 a, .int .i64 b] 56)) (w.heap.size + 1) (by simp)
    rw [show (w.alloc (.cells #[.int .i64 a, .int .i64 b] 56)).heap.size = w.heap.size + 1 by simp] at h
    rw [← hW0]
    exact h
  have HK : Hid (∀ X, Below (w.heap.size + 1) W0 X → X.cell? ⟨w.heap.size, 0, none⟩ = some (.int .i64 a) ∧ X.cell? ⟨w.heap.size, 1, none⟩ = some (.int .i64 b)) := fun X hX => by
    refine ⟨?_, ?_⟩
    · rw [hX.cell (by show w.heap.size < _; omega), ← hW0, World.cell?_alloc_lt _ _ _ (by simp), World.cell?_alloc_new]; rfl
    · rw [hX.cell (by show w.heap.size < _; omega), ← hW0, World.cell?_alloc_lt _ _ _ (by simp), World.cell?_alloc_new]; rfl
  go_enter Tryz.func90, Tryz.ntmps90
  go_upto_region 2 with fail
  (try rw [hW0])
  clear hW0
  go_wp2_with fail
  go_loopw [5, 6, 7, 8] (fun v5 v6 _ _ wr => ∃ (i : Nat) (ys : List (Int × Int)), i ≤ n ∧ v6 = .int .i64 i ∧ Hid (ys.length ≤ 2 * i) ∧ Hid (SpO wr (w.heap.size + 1) v5 ys) ∧ Hid (Below (w.heap.size + 1) W0 wr)) (fun _ v6 _ _ _ => n - (intOf v6).toNat)
  case atStart => exact ⟨0, [], Nat.zero_le _, rfl, Nat.le_refl _, HO1.out, Below.refl _ _⟩
  case round =>
    clear HO1
    obtain ⟨i, ys, hi, rfl, HYS, HO, HB1⟩ := hrel
    obtain ⟨w0, hw0⟩ : ∃ w0, wr = w0 := ⟨_, rfl⟩
    rw [hw0] at HO HB1 ⊢
    clear hw0
    have HBW : Hid (Below w.heap.size w w0) := HB0.out.trans (HB1.out.mono (by omega))
    have hwz : w.heap.size + 2 ≤ w0.heap.size := by have := HB1.out.size; omega
    by_cases hlt : i < n
    · have hiz : (i : Int) < (n : Int) := by omega
      have hiA : (0 : Int) ≤ (i : Int) := by omega
      have HI := Lib.hid hlt
      obtain ⟨ad, x, rfl, hab, hx, hcells⟩ := HL.out.at_ hlt
      obtain ⟨q0, q1⟩ := hcells w0 HBW.out
      obtain ⟨k0, k1⟩ := HK.out w0 HB1.out
      have hl0 : w.heap.size < w0.heap.size := by omega
      have hl1 : (ad.add (i * 2)).block < w0.heap.size := by rw [block_of_add]; omega
      have hl2 : ad.block < w0.heap.size := by omega
      clear hx
      go_wp2_with fail
      go_region
      obtain ⟨la, hla⟩ : ∃ la, min x.2 a = la := ⟨_, rfl⟩
      rw [hla]
      clear hla
      obtain ⟨w1, hw1⟩ : ∃ w1, (w0.alloc (.cells #[.int .i64 x.1, .int .i64 la] 56)).drew = w1 := ⟨_, rfl⟩
      have HB01 : Hid (Below w0.heap.size w0 w1) := by rw [← hw1]; exact ((Below.refl _ w0).alloc (Nat.le_refl _) _).drew
      have hz1 : w1.heap.size = w0.heap.size + 1 := by rw [← hw1]; simp
      have HL1 : Hid (∀ X, Below w1.heap.size w1 X → X.cell? ⟨w0.heap.size, 0, none⟩ = some (.int .i64 x.1) ∧ X.cell? ⟨w0.heap.size, 1, none⟩ = some (.int .i64 la)) := fun X hX => by
        refine ⟨?_, ?_⟩
        · rw [hX.cell (by show w0.heap.size < _; omega), ← hw1, World.cell?_drew, World.cell?_alloc_new]; rfl
        · rw [hX.cell (by show w0.heap.size < _; omega), ← hw1, World.cell?_drew, World.cell?_alloc_new]; rfl
      rw [hw1]
      have HZ1 := Lib.hid hz1
      clear hz1 hw1 k0 k1 q0 q1 hl0 hl1 hl2
      have HBW1 : Hid (Below w.heap.size w w1) := HBW.out.trans (HB01.out.mono HBW.out.size)
      have HK1 : Hid (Below (w.heap.size + 1) W0 w1) := HB1.out.trans (HB01.out.mono (by omega))
      obtain ⟨k0, k1⟩ := HK.out w1 HK1.out
      obtain ⟨q0, q1⟩ := hcells w1 HBW1.out
      have hl0 : w.heap.size < w1.heap.size := by have := HZ1.out; omega
      have hl1 : (ad.add (i * 2)).block < w1.heap.size := by rw [block_of_add]; have := HZ1.out; omega
      have hl2 : ad.block < w1.heap.size := by have := HZ1.out; omega
      have HO1 : Hid (SpO w1 (w.heap.size + 1) u5 ys) := HO.out.on HB01.out
      have HOB : Hid (∀ b, u5.ownBlock = some b → b < w0.heap.size) := fun b hb => (World.ownsRow.lt HO.out b hb).2
      clear HO
      go_wp2_with fail
      go_region
      obtain ⟨rb, hrb⟩ : ∃ rb, max x.1 b = rb := ⟨_, rfl⟩
      rw [hrb]
      clear hrb
      obtain ⟨w2, hw2⟩ : ∃ w2, (w1.alloc (.cells #[.int .i64 rb, .int .i64 x.2] 56)).drew = w2 := ⟨_, rfl⟩
      have HB12 : Hid (Below w1.heap.size w1 w2) := by rw [← hw2]; exact ((Below.refl _ w1).alloc (Nat.le_refl _) _).drew
      have hz2 : w2.heap.size = w1.heap.size + 1 := by rw [← hw2]; simp
      have HL2 : Hid (∀ X, Below w2.heap.size w2 X → X.cell? ⟨w1.heap.size, 0, none⟩ = some (.int .i64 rb) ∧ X.cell? ⟨w1.heap.size, 1, none⟩ = some (.int .i64 x.2)) := fun X hX => by
        refine ⟨?_, ?_⟩
        · rw [hX.cell (by show w1.heap.size < _; omega), ← hw2, World.cell?_drew, World.cell?_alloc_new]; rfl
        · rw [hX.cell (by show w1.heap.size < _; omega), ← hw2, World.cell?_drew, World.cell?_alloc_new]; rfl
      rw [hw2]
      clear hw2 k0 k1 q0 q1 hl0 hl1 hl2 hcells
      have HBW2 : Hid (Below w.heap.size w w2) := HBW1.out.trans (HB12.out.mono HBW1.out.size)
      have HK2 : Hid (Below (w.heap.size + 1) W0 w2) := HK1.out.trans (HB12.out.mono (by have := HZ1.out; omega))
      have HO2 : Hid (SpO w2 (w.heap.size + 1) u5 ys) := HO1.out.on HB12.out
      clear HO1
      obtain ⟨p, hp⟩ : ∃ p, w0.heap.size = p := ⟨_, rfl⟩
      obtain ⟨p2, hp2⟩ : ∃ p, w1.heap.size = p := ⟨_, rfl⟩
      have hpz : w.heap.size + 2 ≤ p := by omega
      have hz2p : w2.heap.size = p + 2 := by have := HZ1.out; omega
      have HP2Z : Hid (p2 = p + 1) := by show _ = _; have := HZ1.out; omega
      rw [hp] at HL1 HOB ⊢
      rw [hp2] at HL2 ⊢
      clear hp2 hz2
      have HL1' : Hid (∀ X, Below w2.heap.size w2 X → X.cell? ⟨p, 0, none⟩ = some (.int .i64 x.1) ∧ X.cell? ⟨p, 1, none⟩ = some (.int .i64 la)) := fun X hX => HL1.out X (HB12.out.trans (hX.mono HB12.out.size))
      clear HL1
      obtain ⟨m0, m1⟩ := HL1'.out w2 (Below.refl _ _)
      have HR1 := Lib.hid fun W => right09_any x.1 la W
      have HR2 := Lib.hid fun W => right09_any rb x.2 W
      obtain ⟨c1, hc1⟩ : ∃ c1, rightS x.1 la = c1 := ⟨_, rfl⟩
      obtain ⟨c2, hc2⟩ : ∃ c2, rightS rb x.2 = c2 := ⟨_, rfl⟩
      rw [hc1] at HR1
      rw [hc2] at HR2
      clear hc1 hc2
      have hyl := HYS.out
      have HRW2 : Hid (w2.cell? ⟨p2, 0, none⟩ = some (.int .i64 rb) ∧ w2.cell? ⟨p2, 1, none⟩ = some (.int .i64 x.2) ∧ p2 < w2.heap.size) := ⟨(HL2.out w2 (Below.refl _ _)).1, (HL2.out w2 (Below.refl _ _)).2, by have := HP2Z.out; omega⟩
      go_upto_if 45 with (refine (HR1.out w2).mono ?_; rintro e w4 ⟨rfl, hb4⟩)
      have HO4 : Hid (SpO w4 (w.heap.size + 1) u5 ys) := HO2.out.on hb4
      have HK4 : Hid (Below (w.heap.size + 1) W0 w4) := HK2.out.trans (hb4.mono (by have := HK2.out.size; omega))
      have HX4 : Hid (Below w2.heap.size w2 w4) := hb4
      have hz4 := HK4.out.size
      have HR4 : Hid (w4.cell? ⟨p2, 0, none⟩ = some (.int .i64 rb) ∧ w4.cell? ⟨p2, 1, none⟩ = some (.int .i64 x.2) ∧ p2 < w4.heap.size) := ⟨(hb4.cell (p := ⟨p2, 0, none⟩) HRW2.out.2.2).trans HRW2.out.1, (hb4.cell (p := ⟨p2, 1, none⟩) HRW2.out.2.2).trans HRW2.out.2.1, Nat.lt_of_lt_of_le HRW2.out.2.2 hb4.size⟩
      clear hb4 m0 m1
      go_cut [5] from 46 to 49 (fun v5 wx => ∃ ys2 : List (Int × Int), Hid (ys2.length ≤ 2 * i + 1) ∧ Hid (SpO wx (w.heap.size + 1) v5 ys2) ∧ Hid (Below (w.heap.size + 1) W0 wx) ∧ Hid (wx.cell? ⟨p2, 0, none⟩ = some (.int .i64 rb) ∧ wx.cell? ⟨p2, 1, none⟩ = some (.int .i64 x.2) ∧ p2 < wx.heap.size))
      case first =>
        cases c1 with
        | true =>
          obtain ⟨m0, m1⟩ := HL1'.out w4 HX4.out
          obtain ⟨r0, r1, rz⟩ := HR4.out
          go_wp2_with (at_builtin; refine wpList_appN2 rfl (.tmp 46) (.tmp 48) 85 rfl (w.heap.size + 1) 56 2 16 (.agg #[.int .i64 0, .int .i64 0]) info_span rfl (by omega) Tryz.underlying85 rfl HO4.out rfl rfl (by simp [Value.oneCell']) (by omega) (by omega) (by omega) ?_; rintro v7 w5 hown7 hb7 hg7 _)
          have HO5 : Hid (SpO w5 (w.heap.size + 1) v7 (ys ++ [(x.1, la)])) := OwnR.snoc (f := encS) (x := (x.1, la)) hown7
          have HK5 : Hid (Below (w.heap.size + 1) W0 w5) := HK4.out.trans hb7
          have r5 : w5.cell? ⟨p2, 0, none⟩ = some (.int .i64 rb) := (World.cell?_of_block (a := ⟨p2, 0, none⟩) (hg7.block p2 (by simp; omega) (fun e => by have := HOB.out p2 e.symm; have := HP2Z.out; omega))).trans ((World.cell?_alloc_lt _ _ _ rz).trans r0)
          have r6 : w5.cell? ⟨p2, 1, none⟩ = some (.int .i64 x.2) := (World.cell?_of_block (a := ⟨p2, 1, none⟩) (hg7.block p2 (by simp; omega) (fun e => by have := HOB.out p2 e.symm; have := HP2Z.out; omega))).trans ((World.cell?_alloc_lt _ _ _ rz).trans r1)
          have rz5 : p2 < w5.heap.size := Nat.lt_of_lt_of_le (by simp; omega) hg7.size
          have HR5 := Lib.hid (And.intro r5 (And.intro r6 rz5))
          have HLE : Hid ((ys ++ [(x.1, la)]).length ≤ 2 * i + 1) := by show _ ≤ _; rw [List.length_append, List.length_singleton]; omega
          clear hown7 hb7 hg7 r5 r6 rz5 r0 r1 rz m0 m1
          (try go_wp2)
          go_meet
          exact ⟨_, HLE, HO5, HK5, HR5⟩
        | false =>
          have HLE : Hid (ys.length ≤ 2 * i + 1) := by show _ ≤ _; omega
          go_wp2
          go_meet
          exact ⟨ys, HLE, HO4, HK4, HR4⟩
      case rest =>
        obtain ⟨ys2, HY2, HO5, HK5, HR5⟩ := hcut
        clear HO2 HL1' HL2 HRW2 HOB HR1 HB12 HBW2 HK2 HO4 HK4 HX4 HR4 hz4 hyl
        have hyl2 := HY2.out
        obtain ⟨r0, r1, rz⟩ := HR5.out
        cases c2 with
        | true =>
          go_wp2_with fail
          refine (HR2.out _).mono ?_
          rintro e w8 ⟨rfl, hb8⟩
          have HO8 := Lib.hid (HO5.out.on hb8)
          have HK8 := Lib.hid (HK5.out.trans (hb8.mono (by have := HK5.out.size; omega)))
          have hz8 := HK8.out.size
          have s0 := (hb8.cell (p := ⟨p2, 0, none⟩) rz).trans r0
          have s1 := (hb8.cell (p := ⟨p2, 1, none⟩) rz).trans r1
          clear hb8 r0 r1 rz
          go_wp2_with (at_builtin; refine wpList_appN rfl (.tmp 52) (.tmp 54) 85 rfl (w.heap.size + 1) 56 2 16 (.agg #[.int .i64 0, .int .i64 0]) info_span rfl (by omega) Tryz.underlying85 rfl HO8.out rfl rfl (by simp [Value.oneCell']) (by omega) (by omega) (by omega) ?_; rintro v9 w9 hown9 hb9)
          have HO9 : Hid (SpO w9 (w.heap.size + 1) v9 (ys2 ++ [(rb, x.2)])) := OwnR.snoc (f := encS) (x := (rb, x.2)) hown9
          have HK9 := Lib.hid (HK8.out.trans hb9)
          have HLE : Hid ((ys2 ++ [(rb, x.2)]).length ≤ 2 * (i + 1)) := by show _ ≤ _; rw [List.length_append, List.length_singleton]; omega
          clear hown9 hb9 s0 s1
          go_wp2
          go_roundw
          case rel => exact ⟨i + 1, ys2 ++ [(rb, x.2)], HI.out, by go_num, HLE, HO9, HK9⟩
          case measure => have := HI.out; simp [intOf]; omega
        | false =>
          go_wp2_with fail
          refine (HR2.out _).mono ?_
          rintro e w8 ⟨rfl, hb8⟩
          have HO8 := Lib.hid (HO5.out.on hb8)
          have HK8 := Lib.hid (HK5.out.trans (hb8.mono (by have := HK5.out.size; omega)))
          have HLE : Hid (ys2.length ≤ 2 * (i + 1)) := by show _ ≤ _; omega
          clear hb8 r0 r1 rz
          go_wp2
          go_roundw
          case rel => exact ⟨i + 1, ys2, HI.out, by go_num, HLE, HO8, HK8⟩
          case measure => have := HI.out; simp [intOf]; omega
    · obtain rfl : n = i := by omega
      have hiz : ¬ (n : Int) < (n : Int) := by omega
      have HF : Hid (SpO w0 w.heap.size u5 ys) := own_base HO.out (by omega)
      go_wp2
      go_ret
      exact SpPost.of HYS.out HF.out HBW.out
end Go.Proofs.YtdpllfgnppeneaaGreatDoor
