import Derived.Test.YthcabnfcgjnlnaaGreatDoorK23
/-
  The program's Numbers and Number; the reference's index and Numbers.
-/
namespace Go.Proofs.YthcabnfcgjnlnaaGreatDoor
open Go.RowKit Ru Lay
attribute [local go_sem ↓] Go.wp_at_zero Go.wp_at_succ
set_option linter.unusedVariables false
set_option linter.unusedSimpArgs false

set_option maxHeartbeats 2000000 in
theorem gnumbers_any (A : Option Addr) (n c : Nat) (L : List Pt) (w : World) (hP : PtsR w w.heap.size A n L) (hn : n ≤ 1000000) (hz : (allR L).length ≤ 1000000) :
    Calls Tryz.prog 13 #[.slice A n c] w fun e w' => ∃ v, e = .returned v ∧ RfO w' w.heap.size v (numsF [] (allR L)) ∧ Below w.heap.size w w' := by
  have HC := Lib.hid (numbers_any A n c L w hP hn hz)
  clear hP hz
  go_enter Tryz.func13, Tryz.ntmps13
  go_wp2_with fail
  refine HC.out.mono ?_
  rintro e w1 ⟨v, b, rfl, hO, hN, hB⟩
  have HO := Lib.hid hO
  have HB := Lib.hid hB
  clear hO hN hB
  go_wp2
  go_ret
  exact ⟨_, rfl, HO.out, HB.out⟩
set_option maxHeartbeats 2000000 in
theorem gnumber_any (A : Option Addr) (n c : Nat) (L : List Pt) (r1 r2 : Int) (w : World) (hP : PtsR w w.heap.size A n L) (hr : RfOk (r1, r2)) (hn : n ≤ 1000000) (hz : (allR L).length ≤ 1000000) :
    Calls Tryz.prog 15 #[.slice A n c, .agg #[.int .i64 r1, .int .i64 r2]] w fun e w' => e = .returned (.int .i64 (numR (numsF [] (allR L)) (r1, r2))) ∧ Below w.heap.size w w' := by
  obtain ⟨W0, hW0⟩ : ∃ W0, w.alloc (.cells #[.int .i64 r1, .int .i64 r2] 24) = W0 := ⟨_, rfl⟩
  have HB0 : Hid (Below w.heap.size w W0) := by rw [← hW0]; exact (Below.refl _ w).alloc (Nat.le_refl _) _
  have HC := Lib.hid (numbers_any A n c L W0 (hP.on HB0.out) hn hz)
  have HK0 : Hid (W0.cell? ⟨w.heap.size, 0, none⟩ = some (.int .i64 r1)) := by rw [← hW0, World.cell?_alloc_new]; rfl
  have HK1 : Hid (W0.cell? ⟨w.heap.size, 1, none⟩ = some (.int .i64 r2)) := by rw [← hW0, World.cell?_alloc_new]; rfl
  have hz0 : W0.heap.size = w.heap.size + 1 := by rw [← hW0]; simp
  have HR := Lib.hid hr
  obtain ⟨nl, hnl⟩ : ∃ nl, numsF [] (allR L) = nl := ⟨_, rfl⟩
  rw [hnl]
  have HNL := Lib.hid hnl
  clear hP hz hr hnl
  go_enter Tryz.func15, Tryz.ntmps15
  go_wp2_with fail
  (try rw [hW0])
  clear hW0
  refine HC.out.mono ?_
  rintro e w1 ⟨v, b, rfl, hO, hN, hB⟩
  have HN := Lib.hid hN
  have HB := Lib.hid hB
  have k0 : w1.cell? ⟨w.heap.size, 0, none⟩ = some (.int .i64 r1) := (hB.cell (by show w.heap.size < _; omega)).trans HK0.out
  have k1 : w1.cell? ⟨w.heap.size, 1, none⟩ = some (.int .i64 r2) := (hB.cell (by show w.heap.size < _; omega)).trans HK1.out
  have HBW : Hid (Below w.heap.size w w1) := HB0.out.trans (hB.mono (by omega))
  rw [HNL.out] at HN
  clear hO hN hB HC HNL hz0
  go_wp2_with (at_lookup; refine wpList_lookup_num _ rfl (.tmp 12) (.tmp 13) rfl b nl rfl HN.out (r1, r2) HR.out rfl ?_)
  go_ret
  exact ⟨rfl, HBW.out⟩
end Go.Proofs.YthcabnfcgjnlnaaGreatDoor
namespace Go.Proofs.YthcabnfcgjnlnaaGreatDoor
open Go.RowKit
set_option linter.unusedVariables false
set_option linter.unusedSimpArgs false

set_option maxHeartbeats 400000 in
theorem same_strs (A B : Option Addr) (n m c d : Nat) (xs ys : List ByteArray) (w : World) (ha : SR w w.heap.size A n xs) (hb : SR w w.heap.size B m ys)
    (hn : n ≤ 9223372036854775807) (hm : m ≤ 9223372036854775807) :
    Calls Tryz.prog 21 #[.slice A n c, .slice B m d] w fun e w' => e = .returned (.bool (decide (xs = ys))) ∧ ∃ k, w' = w.drewN k := by
  have hxl : xs.length = n := ha.len
  have hyl : ys.length = m := hb.len
  by_cases hnm : n = m
  · subst hnm
    have HX := Lib.hid hxl; clear hxl
    have HY := Lib.hid hyl; clear hyl
    go_enter Tryz.func21, Tryz.ntmps21
    go_wp2
    go_loopw [5] (fun i wr => ∃ k : Nat, k ≤ n ∧ i = .int .i64 k ∧ Hid (xs.take k = ys.take k) ∧ Hid (∃ q, wr = w.drewN q)) (fun i _ => n - (intOf i).toNat)
    case atStart => exact ⟨0, Nat.zero_le _, rfl, rfl, ⟨0, rfl⟩⟩
    case round =>
      obtain ⟨k, hk, rfl, hpre, HZ⟩ := hrel
      by_cases hlt : k < n
      · obtain ⟨ad, x, rfl, _, hx, hcx⟩ := ha.at_ hlt
        obtain ⟨bd, y, rfl, _, hy, hcy⟩ := hb.at_ hlt
        have HXK := Lib.hid hx; clear hx
        have HYK := Lib.hid hy; clear hy
        replace hcx : wr.cell? (ad.add k) = _ := cell_z HZ hcx
        replace hcy : wr.cell? (bd.add k) = _ := cell_z HZ hcy
        have hkn : (k : Int) < (n : Int) := by omega
        by_cases hxy : x = y
        · subst hxy
          have HNEXT : Hid (xs.take (k + 1) = ys.take (k + 1)) := take_snoc_eq hpre.out HXK.out HYK.out rfl
          go_wp2_with fail
          go_quiet (fail)
          go_wp2
          go_roundw
          case rel => exact ⟨k + 1, by omega, by go_num, HNEXT, drew_z HZ _⟩
          case measure => simp [intOf]; omega
        · have hne : (x.toList == y.toList) = false := by
            rw [Lib.toList_data, Lib.toList_data]
            refine beq_eq_false_iff_ne.2 fun e => hxy ?_
            cases x with | mk d => cases y with | mk e' => cases d with | mk p => cases e' with | mk q => simp at e; rw [e]
          have HRES : Hid (decide (xs = ys) = false) := decide_eq_false fun he => by
            have h1 := HXK.out
            rw [he, HYK.out] at h1
            injection h1 with h1
            exact hxy h1.symm
          go_wp2_with fail
          go_quiet (fail)
          go_wp2
          go_ret
          exact ⟨ret_bool HRES.out.symm, drew_z HZ _⟩
      · obtain rfl : n = k := by omega
        have HRES : Hid (decide (xs = ys) = true) := by
          have h1 := hpre.out
          rw [List.take_of_length_le (by rw [HX.out]; exact Nat.le_refl _), List.take_of_length_le (by rw [HY.out]; exact Nat.le_refl _)] at h1
          exact decide_eq_true h1
        go_wp2
        go_ret
        exact ⟨ret_bool HRES.out.symm, HZ.out⟩
  · have hd : ((n : Int) != (m : Int)) = true := by rw [bne_iff_ne]; omega
    have HRES : Hid (decide (xs = ys) = false) := decide_eq_false fun he => hnm (by rw [← hxl, ← hyl, he])
    go_enter Tryz.func21, Tryz.ntmps21
    go_wp2
    go_ret
    exact ⟨ret_bool HRES.out.symm, 0, rfl⟩
end Go.Proofs.YthcabnfcgjnlnaaGreatDoor
/-
  The laws' comparisons: rows of strings, references; the bounds of few.
-/
namespace Go.Proofs.YthcabnfcgjnlnaaGreatDoor
open Go.RowKit Ru Lay
attribute [local go_sem ↓] Go.wp_at_zero Go.wp_at_succ
set_option linter.unusedVariables false
set_option linter.unusedSimpArgs false

theorem take_eq_next {α : Type} {xs ys : List α} {k : Nat} {x y : α} (h : xs.take k = ys.take k) (hx : xs[k]? = some x) (hy : ys[k]? = some y) (e : x = y) : xs.take (k + 1) = ys.take (k + 1) := by
  rw [List.take_add_one, List.take_add_one, h, hx, hy, e]
set_option maxHeartbeats 4000000 in
set_option maxRecDepth 100000 in
theorem rows55_any (A B : Option Addr) (n m c d : Nat) (xs ys : List (List ByteArray)) (w : World) (ha : RowsC w w.heap.size A n xs) (hb : RowsC w w.heap.size B m ys)
    (hn : n ≤ 9223372036854775807) (hm : m ≤ 9223372036854775807) :
    Calls Tryz.prog 18 #[.slice A n c, .slice B m d] w fun e w' => e = .returned (.bool (decide (xs = ys))) ∧ Below w.heap.size w w' := by
  have hxl : xs.length = n := ha.len
  have hyl : ys.length = m := hb.len
  by_cases hnm : n = m
  · subst hnm
    have HX := Lib.hid hxl
    have HY := Lib.hid hyl
    have HA := Lib.hid ha
    have HB := Lib.hid hb
    clear hxl hyl ha hb
    go_enter Tryz.func18, Tryz.ntmps18
    go_wp2_with fail
    go_loopw [5, 13] (fun v5 v13 wr => ∃ k : Nat, k ≤ n ∧ v13 = .int .i64 k ∧ Hid (xs.take k = ys.take k) ∧ Hid (Below w.heap.size w wr)) (fun _ v13 _ => n - (intOf v13).toNat)
    case atStart => exact ⟨0, Nat.zero_le _, rfl, rfl, Below.refl _ _⟩
    case round =>
      obtain ⟨k, hk, rfl, hpre, HZ⟩ := hrel
      obtain ⟨w0, hw0⟩ : ∃ w0, wr = w0 := ⟨_, rfl⟩
      rw [hw0] at HZ ⊢
      clear hw0
      by_cases hlt : k < n
      · obtain ⟨ad, x, A1, n1, c1, rfl, hab, hx, hcx, hs1, hnc1, hm1⟩ := HA.out.at_ hlt
        obtain ⟨bd, y, A2, n2, c2, rfl, hbb, hy, hcy, hs2, hnc2, hm2⟩ := HB.out.at_ hlt
        have HXK := Lib.hid hx
        have HYK := Lib.hid hy
        have HLT := Lib.hid hlt
        have HX : Hid (∀ W, Below w0.heap.size w0 W → W.cell? (ad.add k) = some (.slice A1 n1 c1)) := fun W hW => ((HZ.out.trans (hW.mono HZ.out.size)).cell (by rw [block_of_add]; exact hab)).trans hcx
        have HY : Hid (∀ W, Below w0.heap.size w0 W → W.cell? (bd.add k) = some (.slice A2 n2 c2)) := fun W hW => ((HZ.out.trans (hW.mono HZ.out.size)).cell (by rw [block_of_add]; exact hbb)).trans hcy
        obtain ⟨bb, hbb2⟩ : ∃ bb, decide (x = y) = bb := ⟨_, rfl⟩
        have HBB := Lib.hid hbb2
        have HS : Hid (∀ W, Below w0.heap.size w0 W → Calls Tryz.prog 21 #[.slice A1 n1 c1, .slice A2 n2 c2] W fun e w' => e = .returned (.bool bb) ∧ ∃ z, w' = W.drewN z) := fun W hW => by
          have hb0 := HZ.out.trans (hW.mono HZ.out.size)
          rw [← hbb2]
          exact same_strs A1 A2 n1 n2 c1 c2 x y W (Reads.on hs1 hb0) (Reads.on hs2 hb0) (by omega) (by omega)
        have hkn : (k : Int) < (n : Int) := by omega
        have hkA : (0 : Int) ≤ (k : Int) := by omega
        have hsz := HZ.out.size
        clear hx hy hcx hcy hs1 hs2 hbb2
        go_upto_region 6 with fail
        refine wp_region_told [Told.is (.slice (some ad) n c), Told.is (.int .i64 (k : Int)), Told.is (.pointer (some (ad.add k))), Told.is (.slice A1 n1 c1), Told.is (.slice (some bd) n d), Told.is (.int .i64 (k : Int)), Told.is (.pointer (some (bd.add k))), Told.is (.slice A2 n2 c2), Told.is (.bool bb), Told.is (.bool (!bb))] (by kernel_rfl) (by kernel_rfl) ?_ ?_
        · refine And.intro (fun w1 vals hB hd K hK => ?_) ?_
          · clear hd
            simp only [putAll, Act.put, List.setIfInBounds_toArray, List.set_cons_zero, List.set_cons_succ] at hK ⊢
            obtain ⟨ve, hve⟩ : ∃ f : Nat → Value, f = vals := ⟨_, rfl⟩
            rw [← hve] at hK  ⊢
            clear hve
            refine gwp_none rfl ?_
            go_simp
            exact hK _ _ rfl (Below.refl _ _)
          refine And.intro (fun w1 vals hB hd K hK => ?_) ?_
          · clear hd
            simp only [putAll, Act.put, List.setIfInBounds_toArray, List.set_cons_zero, List.set_cons_succ] at hK ⊢
            obtain ⟨ve, hve⟩ : ∃ f : Nat → Value, f = vals := ⟨_, rfl⟩
            rw [← hve] at hK  ⊢
            clear hve
            refine gwp_none rfl ?_
            go_simp
            exact hK _ _ rfl (Below.refl _ _)
          refine And.intro (fun w1 vals hB hd K hK => ?_) ?_
          · have e0 : vals 0 = .slice (some ad) n c := told_at (hd 0 rfl) rfl
            have e1 : vals 1 = .int .i64 (k : Int) := told_at (hd 1 rfl) rfl
            clear hd
            simp only [putAll, Act.put, List.setIfInBounds_toArray, List.set_cons_zero, List.set_cons_succ] at hK ⊢
            simp only [e0, e1] at hK ⊢
            obtain ⟨ve, hve⟩ : ∃ f : Nat → Value, f = vals := ⟨_, rfl⟩
            rw [← hve] at hK  ⊢
            clear e0 e1 hve
            refine gwp_none rfl ?_
            go_simp
            exact hK _ _ rfl (Below.refl _ _)
          refine And.intro (fun w1 vals hB hd K hK => ?_) ?_
          · have e2 : vals 2 = .pointer (some (ad.add k)) := told_at (hd 2 rfl) rfl
            clear hd
            simp only [putAll, Act.put, List.setIfInBounds_toArray, List.set_cons_zero, List.set_cons_succ] at hK ⊢
            simp only [e2] at hK ⊢
            obtain ⟨ve, hve⟩ : ∃ f : Nat → Value, f = vals := ⟨_, rfl⟩
            rw [← hve] at hK  ⊢
            clear e2 hve
            refine gwp_none rfl ?_
            have hq : w1.cell? (ad.add k) = some (.slice A1 n1 c1) := HX.out w1 hB
            go_simp
            exact hK _ _ rfl (Below.refl _ _)
          refine And.intro (fun w1 vals hB hd K hK => ?_) ?_
          · clear hd
            simp only [putAll, Act.put, List.setIfInBounds_toArray, List.set_cons_zero, List.set_cons_succ] at hK ⊢
            obtain ⟨ve, hve⟩ : ∃ f : Nat → Value, f = vals := ⟨_, rfl⟩
            rw [← hve] at hK  ⊢
            clear hve
            refine gwp_none rfl ?_
            go_simp
            exact hK _ _ rfl (Below.refl _ _)
          refine And.intro (fun w1 vals hB hd K hK => ?_) ?_
          · clear hd
            simp only [putAll, Act.put, List.setIfInBounds_toArray, List.set_cons_zero, List.set_cons_succ] at hK ⊢
            obtain ⟨ve, hve⟩ : ∃ f : Nat → Value, f = vals := ⟨_, rfl⟩
            rw [← hve] at hK  ⊢
            clear hve
            refine gwp_none rfl ?_
            go_simp
            exact hK _ _ rfl (Below.refl _ _)
          refine And.intro (fun w1 vals hB hd K hK => ?_) ?_
          · have e4 : vals 4 = .slice (some bd) n d := told_at (hd 4 rfl) rfl
            have e5 : vals 5 = .int .i64 (k : Int) := told_at (hd 5 rfl) rfl
            clear hd
            simp only [putAll, Act.put, List.setIfInBounds_toArray, List.set_cons_zero, List.set_cons_succ] at hK ⊢
            simp only [e4, e5] at hK ⊢
            obtain ⟨ve, hve⟩ : ∃ f : Nat → Value, f = vals := ⟨_, rfl⟩
            rw [← hve] at hK  ⊢
            clear e4 e5 hve
            refine gwp_none rfl ?_
            go_simp
            exact hK _ _ rfl (Below.refl _ _)
          refine And.intro (fun w1 vals hB hd K hK => ?_) ?_
          · have e6 : vals 6 = .pointer (some (bd.add k)) := told_at (hd 6 rfl) rfl
            clear hd
            simp only [putAll, Act.put, List.setIfInBounds_toArray, List.set_cons_zero, List.set_cons_succ] at hK ⊢
            simp only [e6] at hK ⊢
            obtain ⟨ve, hve⟩ : ∃ f : Nat → Value, f = vals := ⟨_, rfl⟩
            rw [← hve] at hK  ⊢
            clear e6 hve
            refine gwp_none rfl ?_
            have hq : w1.cell? (bd.add k) = some (.slice A2 n2 c2) := HY.out w1 hB
            go_simp
            exact hK _ _ rfl (Below.refl _ _)
          refine And.intro (fun w1 vals hB hd K hK => ?_) ?_
          · have e3 : vals 3 = .slice A1 n1 c1 := told_at (hd 3 rfl) rfl
            have e7 : vals 7 = .slice A2 n2 c2 := told_at (hd 7 rfl) rfl
            clear hd
            simp only [putAll, Act.put, List.setIfInBounds_toArray, List.set_cons_zero, List.set_cons_succ] at hK ⊢
            simp only [e3, e7] at hK ⊢
            obtain ⟨ve, hve⟩ : ∃ f : Nat → Value, f = vals := ⟨_, rfl⟩
            rw [← hve] at hK  ⊢
            clear e3 e7 hve
            refine gwp_none rfl ?_
            go_simp
            refine (HS.out w1 hB).mono ?_
            rintro e w4 ⟨rfl, z, rfl⟩
            exact hK _ _ rfl (below_drewN (Below.refl _ _) z)
          refine And.intro (fun w1 vals hB hd K hK => ?_) ?_
          · have e8 : vals 8 = .bool bb := told_at (hd 8 rfl) rfl
            clear hd
            simp only [putAll, Act.put, List.setIfInBounds_toArray, List.set_cons_zero, List.set_cons_succ] at hK ⊢
            simp only [e8] at hK ⊢
            obtain ⟨ve, hve⟩ : ∃ f : Nat → Value, f = vals := ⟨_, rfl⟩
            rw [← hve] at hK  ⊢
            clear e8 hve
            refine gwp_none rfl ?_
            go_simp
            exact hK _ _ rfl (Below.refl _ _)
          exact trivial
        · intro w1 vals hB hd
          have e9 : vals 9 = .bool (!bb) := told_at (hd 9 (by decide)) rfl
          clear hd
          simp only [putAll, Act.put, List.setIfInBounds_toArray, List.set_cons_zero, List.set_cons_succ]
          simp only [e9]
          obtain ⟨ve, hve⟩ : ∃ f : Nat → Value, f = vals := ⟨_, rfl⟩
          rw [← hve]
          clear e9 hve
          have HZ2 : Hid (Below w.heap.size w w1) := HZ.out.trans (hB.mono hsz)
          clear hB
          cases bb with
          | true =>
            have HNEXT : Hid (xs.take (k + 1) = ys.take (k + 1)) := take_eq_next hpre.out HXK.out HYK.out (of_decide_eq_true HBB.out)
            clear HBB
            go_wp2
            go_roundw
            case rel => exact ⟨k + 1, HLT.out, by go_num, HNEXT, HZ2⟩
            case measure => have := HLT.out; simp [intOf]; omega
          | false =>
            have HRES : Hid (decide (xs = ys) = false) := decide_eq_false fun he => by
              have h1 := HXK.out
              rw [he, HYK.out] at h1
              injection h1 with h1
              exact of_decide_eq_false HBB.out h1.symm
            clear HBB
            go_wp2
            go_ret
            exact ⟨ret_bool HRES.out.symm, HZ2.out⟩
      · obtain rfl : n = k := by omega
        have hkn : ¬ (n : Int) < (n : Int) := by omega
        have HRES : Hid (decide (xs = ys) = true) := by
          have h1 := hpre.out
          rw [List.take_of_length_le (by rw [HX.out]; exact Nat.le_refl _), List.take_of_length_le (by rw [HY.out]; exact Nat.le_refl _)] at h1
          exact decide_eq_true h1
        go_wp2
        go_ret
        exact ⟨ret_bool HRES.out.symm, HZ.out⟩
  · have hd : ((n : Int) != (m : Int)) = true := by rw [bne_iff_ne]; omega
    have HRES : Hid (decide (xs = ys) = false) := decide_eq_false fun he => hnm (by rw [← hxl, ← hyl, he])
    go_enter Tryz.func18, Tryz.ntmps18
    go_wp2
    go_ret
    exact ⟨ret_bool HRES.out.symm, Below.refl _ _⟩
end Go.Proofs.YthcabnfcgjnlnaaGreatDoor
