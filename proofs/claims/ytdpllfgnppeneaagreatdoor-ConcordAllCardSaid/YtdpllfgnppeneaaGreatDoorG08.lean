import Derived.Test.YtdpllfgnppeneaaGreatDoorG00
import Derived.Test.YtdpllfgnppeneaaGreatDoorG05
import Derived.Test.YtdpllfgnppeneaaGreatDoorG07
import Derived.WalkLawsBesides
import Derived.Lib.ConvBytes
import Derived.Outline
import Derived.Laws.Cover1
import Derived.Test.YtdpllfgnppeneaaGreatDoorG06
namespace Go.Proofs.YtdpllfgnppeneaaGreatDoor
open Go.RowKit Col
set_option linter.unusedVariables false
set_option linter.unusedSimpArgs false

theorem bytes_at {w : World} {B : Nat} {A : Option Addr} {n k : Nat} {xs : List Int} (h : Reads w B 1 A n (xs.map (.int .u8))) (hk : k < n) :
    ∃ ad x, A = some ad ∧ ad.block < B ∧ xs[k]? = some x ∧ w.cell? (ad.add k) = some (.int .u8 x) := by
  obtain ⟨ad, u, e, hb, hx, hc⟩ := h.at_ hk
  rw [List.getElem?_map] at hx
  cases hz : xs[k]? with
  | none => rw [hz] at hx; cases hx
  | some x => rw [hz] at hx; cases hx; exact ⟨ad, x, e, hb, rfl, hc⟩
set_option maxHeartbeats 400000 in
theorem cmpc_int (a b : Int) (w : World) : Calls Tryz.prog 55 #[.int .i64 a, .int .i64 b] w fun e w' => e = .returned (.int .i64 (cmpN a b)) ∧ w = w' := by
  by_cases h1 : a < b
  · go_enter Tryz.func55, Tryz.ntmps55
    go_wp2
    go_ret
    exact ⟨by simp [cmpN, h1], rfl⟩
  · by_cases h2 : b < a
    · go_enter Tryz.func55, Tryz.ntmps55
      go_wp2
      go_ret
      exact ⟨by simp [cmpN, h1, h2], rfl⟩
    · obtain rfl : a = b := by omega
      go_enter Tryz.func55, Tryz.ntmps55
      go_wp2
      go_ret
      exact ⟨by simp [cmpN], rfl⟩

set_option maxHeartbeats 400000 in
theorem cmpc_byte (a b : Int) (w : World) : Calls Tryz.prog 94 #[.int .u8 a, .int .u8 b] w fun e w' => e = .returned (.int .i64 (cmpN a b)) ∧ w = w' := by
  by_cases h1 : a < b
  · go_enter Tryz.func94, Tryz.ntmps94
    go_wp2
    go_ret
    exact ⟨by simp [cmpN, h1], rfl⟩
  · by_cases h2 : b < a
    · go_enter Tryz.func94, Tryz.ntmps94
      go_wp2
      go_ret
      exact ⟨by simp [cmpN, h1, h2], rfl⟩
    · obtain rfl : a = b := by omega
      go_enter Tryz.func94, Tryz.ntmps94
      go_wp2
      go_ret
      exact ⟨by simp [cmpN], rfl⟩

set_option maxHeartbeats 1000000 in
theorem compare_ints (A B : Option Addr) (n m c d : Nat) (xs ys : List Int) (w : World) (ha : Reads w w.heap.size 1 A n (xs.map (.int .i64))) (hb : Reads w w.heap.size 1 B m (ys.map (.int .i64)))
    (hn : n ≤ 9223372036854775807) (hm : m ≤ 9223372036854775807) :
    Calls Tryz.prog 75 #[.slice A n c, .slice B m d] w fun e w' => e = .returned (.int .i64 (cmpI xs ys)) ∧ ∃ k, w' = w.drewN k := by
  have hxl : xs.length = n := by simpa using ha.1
  have hyl : ys.length = m := by simpa using hb.1
  have HX := Lib.hid hxl; clear hxl
  have HY := Lib.hid hyl; clear hyl
  by_cases hnm : n ≤ m
  · have hz : ¬ (m : Int) < (n : Int) := by omega
    go_enter Tryz.func75, Tryz.ntmps75
    go_wp2_with fail
    go_loopw [5, 6, 12] (fun _ _ i wr => ∃ k : Nat, k ≤ n ∧ i = .int .i64 k ∧ Hid (xs.take k = ys.take k) ∧ Hid (∃ z, wr = w.drewN z)) (fun _ _ i _ => n - (intOf i).toNat)
    case atStart => exact ⟨0, Nat.zero_le _, rfl, rfl, ⟨0, rfl⟩⟩
    case round =>
      obtain ⟨k, hk, rfl, hpre, HZ⟩ := hrel
      by_cases hlt : k < n
      · obtain ⟨ad, x, rfl, _, hx, hcx⟩ := ints_at ha (k := k) (by omega)
        obtain ⟨bd, y, rfl, _, hy, hcy⟩ := ints_at hb (k := k) (by omega)
        have HXK := Lib.hid hx; clear hx
        have HYK := Lib.hid hy; clear hy
        have hkn : (k : Int) < (n : Int) := by omega
        have hkm : (k : Int) < (m : Int) := by omega
        obtain ⟨r, hr⟩ : ∃ r, Hid (cmpN x y = r) := ⟨_, rfl⟩
        replace hcx : wr.cell? (ad.add k) = _ := cell_z HZ hcx
        replace hcy : wr.cell? (bd.add k) = _ := cell_z HZ hcy
        have hc := fun W => (cmpc_int x y W).mono (R' := fun e w' => e = .returned (.int .i64 (cmpN x y)) ∧ w' = W) (fun _ _ ⟨h1, h2⟩ => ⟨h1, h2.symm⟩)
        rw [hr.out] at hc
        have HCC := Lib.hid hc; clear hc
        by_cases h0 : r = 0
        · subst h0
          have HNEXT : Hid (xs.take (k + 1) = ys.take (k + 1)) := take_snoc_eq hpre.out HXK.out HYK.out (cmpN_zero hr.out)
          go_wp2_with fail
          go_quiet ((go_at_call 55; exact Calls.quiet_of_same (HCC.out _)))
          go_wp2
          go_roundw
          case rel => exact ⟨k + 1, by omega, by go_num, HNEXT, drew_z HZ _⟩
          case measure => simp [intOf]; omega
        · have hne : (r != 0) = true := by rw [bne_iff_ne]; exact h0
          have HRES : Hid (cmpI xs ys = r) := by
            have := cmpI_at hpre.out HXK.out HYK.out (by rw [hr.out]; exact h0)
            rw [hr.out] at this
            exact this
          go_wp2_with fail
          go_quiet ((go_at_call 55; exact Calls.quiet_of_same (HCC.out _)))
          go_wp2
          go_ret
          exact ⟨ret_i64 HRES.out.symm, drew_z HZ _⟩
      · obtain rfl : n = k := by omega
        have HEND : Hid (cmpI xs ys = cmpN (n : Int) (m : Int)) := by
          have := cmpI_end (l := xs) (m := ys) (by rw [HX.out, HY.out, show min n m = n by omega]; exact hpre.out)
          rw [HX.out, HY.out] at this
          exact this
        go_wp2_with (go_at_call 55; refine (cmpc_int _ _ _).mono ?_; rintro e w' ⟨rfl, rfl⟩)
        go_ret
        exact ⟨ret_i64 HEND.out.symm, HZ.out⟩
  · have hz : (m : Int) < (n : Int) := by omega
    go_enter Tryz.func75, Tryz.ntmps75
    go_wp2_with fail
    go_loopw [5, 6, 12] (fun _ _ i wr => ∃ k : Nat, k ≤ m ∧ i = .int .i64 k ∧ Hid (xs.take k = ys.take k) ∧ Hid (∃ z, wr = w.drewN z)) (fun _ _ i _ => m - (intOf i).toNat)
    case atStart => exact ⟨0, Nat.zero_le _, rfl, rfl, ⟨0, rfl⟩⟩
    case round =>
      obtain ⟨k, hk, rfl, hpre, HZ⟩ := hrel
      by_cases hlt : k < m
      · obtain ⟨ad, x, rfl, _, hx, hcx⟩ := ints_at ha (k := k) (by omega)
        obtain ⟨bd, y, rfl, _, hy, hcy⟩ := ints_at hb (k := k) (by omega)
        have HXK := Lib.hid hx; clear hx
        have HYK := Lib.hid hy; clear hy
        have hkn : (k : Int) < (n : Int) := by omega
        have hkm : (k : Int) < (m : Int) := by omega
        obtain ⟨r, hr⟩ : ∃ r, Hid (cmpN x y = r) := ⟨_, rfl⟩
        replace hcx : wr.cell? (ad.add k) = _ := cell_z HZ hcx
        replace hcy : wr.cell? (bd.add k) = _ := cell_z HZ hcy
        have hc := fun W => (cmpc_int x y W).mono (R' := fun e w' => e = .returned (.int .i64 (cmpN x y)) ∧ w' = W) (fun _ _ ⟨h1, h2⟩ => ⟨h1, h2.symm⟩)
        rw [hr.out] at hc
        have HCC := Lib.hid hc; clear hc
        by_cases h0 : r = 0
        · subst h0
          have HNEXT : Hid (xs.take (k + 1) = ys.take (k + 1)) := take_snoc_eq hpre.out HXK.out HYK.out (cmpN_zero hr.out)
          go_wp2_with fail
          go_quiet ((go_at_call 55; exact Calls.quiet_of_same (HCC.out _)))
          go_wp2
          go_roundw
          case rel => exact ⟨k + 1, by omega, by go_num, HNEXT, drew_z HZ _⟩
          case measure => simp [intOf]; omega
        · have hne : (r != 0) = true := by rw [bne_iff_ne]; exact h0
          have HRES : Hid (cmpI xs ys = r) := by
            have := cmpI_at hpre.out HXK.out HYK.out (by rw [hr.out]; exact h0)
            rw [hr.out] at this
            exact this
          go_wp2_with fail
          go_quiet ((go_at_call 55; exact Calls.quiet_of_same (HCC.out _)))
          go_wp2
          go_ret
          exact ⟨ret_i64 HRES.out.symm, drew_z HZ _⟩
      · obtain rfl : m = k := by omega
        have HEND : Hid (cmpI xs ys = cmpN (n : Int) (m : Int)) := by
          have := cmpI_end (l := xs) (m := ys) (by rw [HX.out, HY.out, show min n m = m by omega]; exact hpre.out)
          rw [HX.out, HY.out] at this
          exact this
        go_wp2_with (go_at_call 55; refine (cmpc_int _ _ _).mono ?_; rintro e w' ⟨rfl, rfl⟩)
        go_ret
        exact ⟨ret_i64 HEND.out.symm, HZ.out⟩

set_option maxHeartbeats 1000000 in
theorem compare_bytes (A B : Option Addr) (n m c d : Nat) (xs ys : List Int) (w : World) (ha : Reads w w.heap.size 1 A n (xs.map (.int .u8))) (hb : Reads w w.heap.size 1 B m (ys.map (.int .u8)))
    (hn : n ≤ 9223372036854775807) (hm : m ≤ 9223372036854775807) :
    Calls Tryz.prog 76 #[.slice A n c, .slice B m d] w fun e w' => e = .returned (.int .i64 (cmpI xs ys)) ∧ ∃ k, w' = w.drewN k := by
  have hxl : xs.length = n := by simpa using ha.1
  have hyl : ys.length = m := by simpa using hb.1
  have HX := Lib.hid hxl; clear hxl
  have HY := Lib.hid hyl; clear hyl
  by_cases hnm : n ≤ m
  · have hz : ¬ (m : Int) < (n : Int) := by omega
    go_enter Tryz.func76, Tryz.ntmps76
    go_wp2_with fail
    go_loopw [5, 6, 12] (fun _ _ i wr => ∃ k : Nat, k ≤ n ∧ i = .int .i64 k ∧ Hid (xs.take k = ys.take k) ∧ Hid (∃ z, wr = w.drewN z)) (fun _ _ i _ => n - (intOf i).toNat)
    case atStart => exact ⟨0, Nat.zero_le _, rfl, rfl, ⟨0, rfl⟩⟩
    case round =>
      obtain ⟨k, hk, rfl, hpre, HZ⟩ := hrel
      by_cases hlt : k < n
      · obtain ⟨ad, x, rfl, _, hx, hcx⟩ := bytes_at ha (k := k) (by omega)
        obtain ⟨bd, y, rfl, _, hy, hcy⟩ := bytes_at hb (k := k) (by omega)
        have HXK := Lib.hid hx; clear hx
        have HYK := Lib.hid hy; clear hy
        have hkn : (k : Int) < (n : Int) := by omega
        have hkm : (k : Int) < (m : Int) := by omega
        obtain ⟨r, hr⟩ : ∃ r, Hid (cmpN x y = r) := ⟨_, rfl⟩
        replace hcx : wr.cell? (ad.add k) = _ := cell_z HZ hcx
        replace hcy : wr.cell? (bd.add k) = _ := cell_z HZ hcy
        have hc := fun W => (cmpc_byte x y W).mono (R' := fun e w' => e = .returned (.int .i64 (cmpN x y)) ∧ w' = W) (fun _ _ ⟨h1, h2⟩ => ⟨h1, h2.symm⟩)
        rw [hr.out] at hc
        have HCC := Lib.hid hc; clear hc
        by_cases h0 : r = 0
        · subst h0
          have HNEXT : Hid (xs.take (k + 1) = ys.take (k + 1)) := take_snoc_eq hpre.out HXK.out HYK.out (cmpN_zero hr.out)
          go_wp2_with fail
          go_quiet ((go_at_call 94; exact Calls.quiet_of_same (HCC.out _)))
          go_wp2
          go_roundw
          case rel => exact ⟨k + 1, by omega, by go_num, HNEXT, drew_z HZ _⟩
          case measure => simp [intOf]; omega
        · have hne : (r != 0) = true := by rw [bne_iff_ne]; exact h0
          have HRES : Hid (cmpI xs ys = r) := by
            have := cmpI_at hpre.out HXK.out HYK.out (by rw [hr.out]; exact h0)
            rw [hr.out] at this
            exact this
          go_wp2_with fail
          go_quiet ((go_at_call 94; exact Calls.quiet_of_same (HCC.out _)))
          go_wp2
          go_ret
          exact ⟨ret_i64 HRES.out.symm, drew_z HZ _⟩
      · obtain rfl : n = k := by omega
        have HEND : Hid (cmpI xs ys = cmpN (n : Int) (m : Int)) := by
          have := cmpI_end (l := xs) (m := ys) (by rw [HX.out, HY.out, show min n m = n by omega]; exact hpre.out)
          rw [HX.out, HY.out] at this
          exact this
        go_wp2_with (go_at_call 55; refine (cmpc_int _ _ _).mono ?_; rintro e w' ⟨rfl, rfl⟩)
        go_ret
        exact ⟨ret_i64 HEND.out.symm, HZ.out⟩
  · have hz : (m : Int) < (n : Int) := by omega
    go_enter Tryz.func76, Tryz.ntmps76
    go_wp2_with fail
    go_loopw [5, 6, 12] (fun _ _ i wr => ∃ k : Nat, k ≤ m ∧ i = .int .i64 k ∧ Hid (xs.take k = ys.take k) ∧ Hid (∃ z, wr = w.drewN z)) (fun _ _ i _ => m - (intOf i).toNat)
    case atStart => exact ⟨0, Nat.zero_le _, rfl, rfl, ⟨0, rfl⟩⟩
    case round =>
      obtain ⟨k, hk, rfl, hpre, HZ⟩ := hrel
      by_cases hlt : k < m
      · obtain ⟨ad, x, rfl, _, hx, hcx⟩ := bytes_at ha (k := k) (by omega)
        obtain ⟨bd, y, rfl, _, hy, hcy⟩ := bytes_at hb (k := k) (by omega)
        have HXK := Lib.hid hx; clear hx
        have HYK := Lib.hid hy; clear hy
        have hkn : (k : Int) < (n : Int) := by omega
        have hkm : (k : Int) < (m : Int) := by omega
        obtain ⟨r, hr⟩ : ∃ r, Hid (cmpN x y = r) := ⟨_, rfl⟩
        replace hcx : wr.cell? (ad.add k) = _ := cell_z HZ hcx
        replace hcy : wr.cell? (bd.add k) = _ := cell_z HZ hcy
        have hc := fun W => (cmpc_byte x y W).mono (R' := fun e w' => e = .returned (.int .i64 (cmpN x y)) ∧ w' = W) (fun _ _ ⟨h1, h2⟩ => ⟨h1, h2.symm⟩)
        rw [hr.out] at hc
        have HCC := Lib.hid hc; clear hc
        by_cases h0 : r = 0
        · subst h0
          have HNEXT : Hid (xs.take (k + 1) = ys.take (k + 1)) := take_snoc_eq hpre.out HXK.out HYK.out (cmpN_zero hr.out)
          go_wp2_with fail
          go_quiet ((go_at_call 94; exact Calls.quiet_of_same (HCC.out _)))
          go_wp2
          go_roundw
          case rel => exact ⟨k + 1, by omega, by go_num, HNEXT, drew_z HZ _⟩
          case measure => simp [intOf]; omega
        · have hne : (r != 0) = true := by rw [bne_iff_ne]; exact h0
          have HRES : Hid (cmpI xs ys = r) := by
            have := cmpI_at hpre.out HXK.out HYK.out (by rw [hr.out]; exact h0)
            rw [hr.out] at this
            exact this
          go_wp2_with fail
          go_quiet ((go_at_call 94; exact Calls.quiet_of_same (HCC.out _)))
          go_wp2
          go_ret
          exact ⟨ret_i64 HRES.out.symm, drew_z HZ _⟩
      · obtain rfl : m = k := by omega
        have HEND : Hid (cmpI xs ys = cmpN (n : Int) (m : Int)) := by
          have := cmpI_end (l := xs) (m := ys) (by rw [HX.out, HY.out, show min n m = m by omega]; exact hpre.out)
          rw [HX.out, HY.out] at this
          exact this
        go_wp2_with (go_at_call 55; refine (cmpc_int _ _ _).mono ?_; rintro e w' ⟨rfl, rfl⟩)
        go_ret
        exact ⟨ret_i64 HEND.out.symm, HZ.out⟩

def orL : List Int → Int
  | [] => 0
  | x :: l => if x = 0 then orL l else x
theorem orL_drop {l : List Int} {k : Nat} {x : Int} (h : l[k]? = some x) : orL (l.drop k) = if x = 0 then orL (l.drop (k + 1)) else x := by
  rw [List.drop_eq_getElem_cons (List.getElem?_eq_some_iff.1 h).1, (List.getElem?_eq_some_iff.1 h).2]
  rfl
set_option maxHeartbeats 400000 in
theorem or_ints (A : Option Addr) (n c : Nat) (xs : List Int) (w : World) (ha : Reads w w.heap.size 1 A n (xs.map (.int .i64))) (hn : n ≤ 9223372036854775807) :
    Calls Tryz.prog 53 #[.slice A n c] w fun e w' => e = .returned (.int .i64 (orL xs)) ∧ w = w' := by
  have hxl : xs.length = n := by simpa using ha.1
  have HX := Lib.hid hxl; clear hxl
  go_enter Tryz.func53, Tryz.ntmps53
  go_wp2
  go_loop [5, 8] (fun _ i => ∃ k : Nat, k ≤ n ∧ i = .int .i64 k ∧ Hid (orL (xs.drop k) = orL xs)) (fun _ i => n - (intOf i).toNat)
  case atStart => exact ⟨0, Nat.zero_le _, rfl, rfl⟩
  case round =>
    obtain ⟨k, hk, rfl, hpre⟩ := hrel
    by_cases hlt : k < n
    · obtain ⟨ad, x, rfl, _, hx, hcx⟩ := ints_at ha (k := k) (by omega)
      have HXK := Lib.hid hx; clear hx
      by_cases h0 : x = 0
      · subst h0
        have HN : Hid (orL (xs.drop (k + 1)) = orL xs) := by
          have := orL_drop HXK.out
          rw [if_pos rfl] at this
          show _ = _
          rw [← this]; exact hpre.out
        go_wp2
        go_round
        case rel => exact ⟨k + 1, by omega, by go_num, HN⟩
        case measure => simp [intOf]; omega
      · have HN : Hid (orL xs = x) := by
          have := orL_drop HXK.out
          rw [if_neg h0, hpre.out] at this
          exact this
        have hne : (x != 0) = true := by rw [bne_iff_ne]; exact h0
        go_wp2
        go_ret
        exact ⟨ret_i64 HN.out.symm, rfl⟩
    · obtain rfl : k = n := by omega
      go_wp2
      go_ret
      refine ⟨ret_i64 ?_, rfl⟩
      have := hpre.out
      rw [← HX.out, List.drop_length] at this
      exact this
end Go.Proofs.YtdpllfgnppeneaaGreatDoor

namespace Go.Proofs.YtdpllfgnppeneaaGreatDoor
open Go.RowKit Col
set_option linter.unusedVariables false
set_option linter.unusedSimpArgs false

theorem prim_eq (L : List (List ByteArray)) (s : List UInt8) : prim (letters L s) = (primI L s).map (.int .i64) := by simp [prim, primI, List.map_map, Function.comp_def]
theorem secd_eq (L : List (List ByteArray)) (s : List UInt8) : secd (letters L s) = (secI L s).map (.int .i64) := by simp [secd, secI, List.map_map, Function.comp_def]
theorem below_bytes (w : World) (e : TypeId) (s : ByteArray) : Below w.heap.size w (Lib.bytesWorld w e s) :=
  ⟨rfl, rfl, rfl, by rw [Lib.bytesWorld_size]; omega, fun k hk => Lib.bytesWorld_at_old w e s k hk⟩
theorem reads_bytes (w : World) (e : TypeId) (s : ByteArray) : Reads (Lib.bytesWorld w e s) (Lib.bytesWorld w e s).heap.size 1 (some ⟨w.heap.size, 0, none⟩) s.size ((bytesI s.data.toList).map (.int .u8)) := by
  refine ⟨by simp [bytesI, ← Lib.size_eq], fun _ => ⟨_, rfl, by rw [Lib.bytesWorld_size]; simp, fun j u hu => ?_⟩⟩
  have hj : j < s.size := by
    have := (List.getElem?_eq_some_iff.1 hu).1
    simpa [bytesI, ← Lib.size_eq] using this
  have hc := Lib.bytesWorld_cell w e s j hj
  have e1 : (⟨w.heap.size, 0, none⟩ : Addr).add j = ⟨w.heap.size, j, none⟩ := by
    unfold Addr.add
    split
    · rename_i h; simp [h]
    · simp
  rw [e1, hc]
  simp [bytesI] at hu
  obtain ⟨b, hb, rfl⟩ := hu
  simp [List.getD, hb]

set_option maxHeartbeats 1000000 in
theorem compare_any (nm : ByteArray) (UA A : Option Addr) (un uc n c : Nat) (L : List (List ByteArray)) (s t : ByteArray) (w : World) (B : Nat)
    (hL : RowsR w B A n L) (hB : B ≤ w.heap.size) (hz : SizedL L) (hs : s.size ≤ 1099511627776) (ht : t.size ≤ 1099511627776) :
    Calls Tryz.prog 50 #[.agg #[.string nm, .slice UA un uc, .slice A n c], .string s, .string t] w fun e w' => e = .returned (.int .i64 (cmpS L s.data.toList t.data.toList)) ∧ Below w.heap.size w w' := by
  have hL1 : RowsR (w.alloc (.cells #[Value.string nm, Value.slice UA un uc, Value.slice A n c] 50)) B A n L := hL.below ((Below.refl B w).alloc hB _)
  have hbe : Below w.heap.size w (w.alloc (.cells #[Value.string nm, Value.slice UA un uc, Value.slice A n c] 50)) := (Below.refl _ w).alloc (Nat.le_refl _) _
  have hbx : ∀ w1, Below (w.heap.size + 1) (w.alloc (.cells #[Value.string nm, Value.slice UA un uc, Value.slice A n c] 50)) w1 →
      w1.cell? ⟨w.heap.size, 0, none⟩ = some (.string nm) ∧ w1.cell? ⟨w.heap.size, 1, none⟩ = some (.slice UA un uc) ∧ w1.cell? ⟨w.heap.size, 2, none⟩ = some (.slice A n c) := fun w1 hb1 =>
    ⟨(hb1.cell (by simp)).trans (by rw [World.cell?_alloc_at _ _ _ _ rfl]; rfl), (hb1.cell (by simp)).trans (by rw [World.cell?_alloc_at _ _ _ _ rfl]; rfl), (hb1.cell (by simp)).trans (by rw [World.cell?_alloc_at _ _ _ _ rfl]; rfl)⟩
  have hl1 := Col.letters_length L _ s.data.toList (Nat.le_refl _)
  have hl2 := Col.letters_length L _ t.data.toList (Nat.le_refl _)
  rw [← Lib.size_eq] at hl1 hl2
  have LS := Lib.hid (letters_any nm UA A un uc n c L s (w.alloc (.cells #[Value.string nm, Value.slice UA un uc, Value.slice A n c] 50)) B hL1 (by simp; omega) hz hs)
  have HBX := Lib.hid hbx; clear hbx
  have HL1 := Lib.hid hL1; clear hL1
  go_enter Tryz.func50, Tryz.ntmps50
  go_wp2_with fail
  refine LS.out.mono ?_
  rintro e w1 ⟨va, vb, rfl, hva, hvb, hb1⟩
  rw [prim_eq] at hva
  rw [secd_eq] at hvb
  obtain ⟨A1, c1, rfl, _, _, ra⟩ := own_form hva
  obtain ⟨A2, c2, rfl, _, _, rb⟩ := own_form hvb
  have HRA := Lib.hid ra; have HRB := Lib.hid rb
  have HB1 : Hid (Below (w.heap.size + 1) (w.alloc (.cells #[Value.string nm, Value.slice UA un uc, Value.slice A n c] 50)) w1) := hb1.mono (by simp)
  obtain ⟨k0, k1, k2⟩ := HBX.out w1 HB1.out
  have LT := Lib.hid (letters_any nm UA A un uc n c L t w1 B (HL1.out.below (HB1.out.mono (by omega))) (by have := HB1.out.size; simp at this; omega) hz ht)
  clear hva hvb ra rb hb1 LS
  go_wp2_with fail
  refine LT.out.mono ?_
  rintro e w2 ⟨va, vb, rfl, hva, hvb, hb2⟩
  rw [prim_eq] at hva
  rw [secd_eq] at hvb
  obtain ⟨A3, c3, rfl, _, _, ra⟩ := own_form hva
  obtain ⟨A4, c4, rfl, _, _, rb⟩ := own_form hvb
  have HRC := Lib.hid ra; have HRD := Lib.hid rb
  have HB2 : Hid (Below w1.heap.size w1 w2) := hb2
  clear hva hvb ra rb hb2 LT k0 k1 k2
  go_wp2_with fail
  refine (compare_ints _ _ _ _ _ _ (primI L s.data.toList) (primI L t.data.toList) w2 (HRA.out.on HB2.out) HRC.out (by omega) (by omega)).mono ?_
  rintro e w3 ⟨rfl, hk⟩
  have HB3 : Hid (Below w2.heap.size w2 w3) := by obtain ⟨k, rfl⟩ := hk; exact below_drewN (Below.refl _ _) _
  clear hk
  go_wp2_with fail
  refine (compare_ints _ _ _ _ _ _ (secI L s.data.toList) (secI L t.data.toList) w3 ((HRB.out.on HB2.out).on HB3.out) (HRD.out.on HB3.out) (by omega) (by omega)).mono ?_
  rintro e w4 ⟨rfl, hk⟩
  have HB4 : Hid (Below w3.heap.size w3 w4) := by obtain ⟨k, rfl⟩ := hk; exact below_drewN (Below.refl _ _) _
  clear hk
  have kc := fun (w : World) (s : ByteArray) => Lib.run_convert_string_bytes (P := Tryz.prog) w 9 100 5 s Tryz.underlying9 Tryz.underlying100 Tryz.underlying5
  go_wp2_with fail
  clear kc
  have HB5 : Hid (Below w4.heap.size w4 (Lib.bytesWorld w4 5 s)) := below_bytes _ _ _
  have HB6 : Hid (Below (Lib.bytesWorld w4 5 s).heap.size (Lib.bytesWorld w4 5 s) (Lib.bytesWorld (Lib.bytesWorld w4 5 s) 5 t)) := below_bytes _ _ _
  refine (compare_bytes _ _ _ _ _ _ (bytesI s.data.toList) (bytesI t.data.toList) _ ((reads_bytes w4 5 s).on HB6.out) (reads_bytes _ _ _) (by omega) (by omega)).mono ?_
  rintro e w7 ⟨rfl, hk⟩
  have HB7 : Hid (Below (Lib.bytesWorld (Lib.bytesWorld w4 5 s) 5 t).heap.size (Lib.bytesWorld (Lib.bytesWorld w4 5 s) 5 t) w7) := by obtain ⟨k, rfl⟩ := hk; exact below_drewN (Below.refl _ _) _
  clear hk
  go_wp2_with fail
  refine (or_ints _ _ _ [cmpI (primI L s.data.toList) (primI L t.data.toList), cmpI (secI L s.data.toList) (secI L t.data.toList), cmpI (bytesI s.data.toList) (bytesI t.data.toList)] _ ?_ (by omega)).mono ?_
  · refine ⟨rfl, fun _ => ⟨_, rfl, by simp, fun j u hu => ?_⟩⟩
    match j, hu with
    | 0, hu => cases hu; simp [Addr.add]
    | 1, hu => cases hu; simp [Addr.add]
    | 2, hu => cases hu; simp [Addr.add]
  · rintro e w8 ⟨rfl, rfl⟩
    go_wp2
    go_ret
    refine ⟨ret_i64 ?_, ?_⟩
    · simp only [orL, cmpS, or2]
      split
      · split
        · split
          · rename_i h; exact h.symm
          · rfl
        · rfl
      · rfl
    · have b12 := HB1.out.trans (HB2.out.mono (by have := HB1.out.size; simp at this; omega))
      have s1 := HB1.out.size; have s2 := HB2.out.size; have s3 := HB3.out.size; have s4 := HB4.out.size; have s5 := HB5.out.size; have s6 := HB6.out.size; have s7 := HB7.out.size
      simp at s1
      refine (((((((hbe.trans (HB1.out.mono (by omega))).trans (HB2.out.mono (by omega))).trans (HB3.out.mono (by omega))).trans (HB4.out.mono (by omega))).trans (HB5.out.mono (by omega))).trans (HB6.out.mono (by omega))).trans (HB7.out.mono (by omega))).alloc (by omega) _
end Go.Proofs.YtdpllfgnppeneaaGreatDoor

namespace Go.Proofs.YtdpllfgnppeneaaGreatDoor
open Go.RowKit Col
set_option linter.unusedVariables false
set_option linter.unusedSimpArgs false

theorem bytesLess_cmp : ∀ (x y : List UInt8), Op.bytesLess x y = decide (cmpI (bytesI x) (bytesI y) = -1)
  | [], [] => by simp [Op.bytesLess, bytesI, cmpI]
  | [], _ :: _ => by simp [Op.bytesLess, bytesI, cmpI]
  | _ :: _, [] => by simp [Op.bytesLess, bytesI, cmpI]
  | a :: x, b :: y => by
    have ih := bytesLess_cmp x y
    have e : cmpI (bytesI (a :: x)) (bytesI (b :: y)) = or2 (cmpN (a.toNat : Int) (b.toNat : Int)) (cmpI (bytesI x) (bytesI y)) := rfl
    rw [e, Op.bytesLess, ih]
    by_cases h1 : a < b
    · have h2 : (a.toNat : Int) < (b.toNat : Int) := by have := UInt8.lt_iff_toNat_lt.1 h1; omega
      simp [h1, cmpN, h2, or2]
    · have h2 : ¬ (a.toNat : Int) < (b.toNat : Int) := fun h => h1 (UInt8.lt_iff_toNat_lt.2 (by omega))
      by_cases h3 : a = b
      · subst h3
        simp [cmpN, or2]
      · have h4 : (b.toNat : Int) < (a.toNat : Int) := by
          have : a.toNat ≠ b.toNat := fun h => h3 (UInt8.toNat_inj.1 h)
          omega
        simp [h1, h3, cmpN, h2, h4, or2]
theorem bytes_three (x y : List UInt8) : (cmpI (bytesI x) (bytesI y) = -1 ∧ Op.bytesLess x y = true ∧ (x == y) = false) ∨ (cmpI (bytesI x) (bytesI y) = 0 ∧ Op.bytesLess x y = false ∧ (x == y) = true) ∨
    (cmpI (bytesI x) (bytesI y) = 1 ∧ Op.bytesLess x y = false ∧ (x == y) = false) := by
  have h := bytesLess_cmp x y
  have hne : cmpI (bytesI x) (bytesI y) ≠ 0 → (x == y) = false := fun h0 => beq_eq_false_iff_ne.2 fun e => h0 (by rw [e]; exact cmpI_is.self _)
  rcases cmpI_is.range (bytesI x) (bytesI y) with e | e | e
  · exact .inl ⟨e, by rw [h, e]; rfl, hne (by omega)⟩
  · exact .inr (.inl ⟨e, by rw [h, e]; rfl, beq_iff_eq.2 (bytesI_inj (cmpI_zero _ _ e))⟩)
  · exact .inr (.inr ⟨e, by rw [h, e]; rfl, hne (by omega)⟩)

end Go.Proofs.YtdpllfgnppeneaaGreatDoor

/-
  Two lists of texts, compared by the reference.
-/
namespace Go.Proofs.YtdpllfgnppeneaaGreatDoor
open Go.RowKit Ru Lay
attribute [local go_sem ↓] Go.wp_at_zero Go.wp_at_succ
set_option linter.unusedVariables false
set_option linter.unusedSimpArgs false

/-- Two lists, compared element by element; fewer ones are first. -/
def cmpT (c : ByteArray → ByteArray → Int) : List ByteArray → List ByteArray → Int
  | [], [] => 0
  | [], _ :: _ => -1
  | _ :: _, [] => 1
  | x :: a, y :: b => if c x y = 0 then cmpT c a b else c x y
theorem dropT_at {α : Type} {l : List α} {i : Nat} {x : α} (h : l[i]? = some x) : l.drop i = x :: l.drop (i + 1) := by
  obtain ⟨hl, rfl⟩ := List.getElem?_eq_some_iff.1 h
  exact List.drop_eq_getElem_cons hl
theorem cmpT_next {c : ByteArray → ByteArray → Int} {a b xs ys : List ByteArray} {i : Nat} {x y : ByteArray} (h : cmpT c a b = cmpT c (xs.drop i) (ys.drop i)) (hx : xs[i]? = some x) (hy : ys[i]? = some y) (h0 : c x y = 0) : cmpT c a b = cmpT c (xs.drop (i + 1)) (ys.drop (i + 1)) := by
  rw [h, dropT_at hx, dropT_at hy]
  show (if c x y = 0 then _ else _) = _
  rw [if_pos h0]
theorem cmpT_here {c : ByteArray → ByteArray → Int} {a b xs ys : List ByteArray} {i : Nat} {x y : ByteArray} (h : cmpT c a b = cmpT c (xs.drop i) (ys.drop i)) (hx : xs[i]? = some x) (hy : ys[i]? = some y) (h0 : ¬ c x y = 0) : cmpT c a b = c x y := by
  rw [h, dropT_at hx, dropT_at hy]
  show (if c x y = 0 then _ else _) = _
  rw [if_neg h0]
theorem cmpT_end {c : ByteArray → ByteArray → Int} {a b xs ys : List ByteArray} {i : Nat} (h : cmpT c a b = cmpT c (xs.drop i) (ys.drop i)) (hi : i ≤ xs.length) (hj : i ≤ ys.length) (hij : i = xs.length ∨ i = ys.length) :
    cmpT c a b = if xs.length < ys.length then -1 else if ys.length < xs.length then 1 else 0 := by
  rw [h]
  by_cases h1 : i < xs.length
  · have h2 : i = ys.length := by omega
    rw [List.drop_eq_getElem_cons h1, show ys.drop i = [] from List.drop_eq_nil_of_le (by omega)]
    rw [if_neg (by omega), if_pos (by omega)]
    rfl
  · have h2 : i = xs.length := by omega
    rw [show xs.drop i = [] from List.drop_eq_nil_of_le (by omega)]
    by_cases h3 : i < ys.length
    · rw [List.drop_eq_getElem_cons h3, if_pos (by omega)]
      rfl
    · rw [show ys.drop i = [] from List.drop_eq_nil_of_le (by omega), if_neg (by omega), if_neg (by omega)]
      rfl
/-- The comparison of two strings by the letters L. -/
def cmpL (L : List (List ByteArray)) (s t : ByteArray) : Int := Col.cmpS L s.data.toList t.data.toList
end Go.Proofs.YtdpllfgnppeneaaGreatDoor

/-
  The program's comparison of two lists of texts: slices.CompareFunc at the closure of compare; cmp.Or.
-/
namespace Go.Proofs.YtdpllfgnppeneaaGreatDoor
open Go.RowKit Ru Lay
attribute [local go_sem ↓] Go.wp_at_zero Go.wp_at_succ
set_option linter.unusedVariables false
set_option linter.unusedSimpArgs false

/-- The orthography that the closure holds lies in block b. -/
structure BoxOr (w : World) (b : Nat) (nm : ByteArray) (UA : Option Addr) (un uc : Nat) (LA : Option Addr) (ln lc : Nat) : Prop where
  lt : b < w.heap.size
  k0 : w.cell? ⟨b, 0, none⟩ = some (.string nm)
  k1 : w.cell? ⟨b, 1, none⟩ = some (.slice UA un uc)
  k2 : w.cell? ⟨b, 2, none⟩ = some (.slice LA ln lc)
theorem BoxOr.on {w w' : World} {b un uc ln lc : Nat} {nm : ByteArray} {UA LA : Option Addr} (h : BoxOr w b nm UA un uc LA ln lc) (hb : Below w.heap.size w w') : BoxOr w' b nm UA un uc LA ln lc :=
  ⟨Nat.lt_of_lt_of_le h.lt hb.size, (hb.cell (p := ⟨b, 0, none⟩) h.lt).trans h.k0, (hb.cell (p := ⟨b, 1, none⟩) h.lt).trans h.k1, (hb.cell (p := ⟨b, 2, none⟩) h.lt).trans h.k2⟩
set_option maxHeartbeats 1000000 in
theorem word_any (nm : ByteArray) (UA LA : Option Addr) (un uc ln lc b : Nat) (L : List (List ByteArray)) (x y : ByteArray) (w : World) (B : Nat)
    (hbox : BoxOr w b nm UA un uc LA ln lc) (hL : RowsR w B LA ln L) (hB : B ≤ w.heap.size) (hz : SizedL L) (hs : x.size ≤ 1099511627776) (ht : y.size ≤ 1099511627776) :
    Calls Tryz.prog 49 #[.string x, .string y, .pointer (some ⟨b, 0, none⟩)] w fun e w' => e = .returned (.int .i64 (cmpL L x y)) ∧ Below w.heap.size w w' := by
  have hc := Lib.hid (compare_any nm UA LA un uc ln lc L x y w B hL hB hz hs ht)
  obtain ⟨_, k0, k1, k2⟩ := hbox
  clear hL
  go_enter Tryz.func49, Tryz.ntmps49
  go_wp2_with fail
  refine hc.out.mono ?_
  rintro e w1 ⟨rfl, hb⟩
  go_wp2
  go_ret
  exact ⟨rfl, hb⟩
theorem enters_word : ∀ args w, (callFunc 49 args).run Tryz.prog w = .ok (.enter 49 args) w := enters_of Tryz.func49 (by kernel_rfl) rfl
set_option maxHeartbeats 2000000 in
set_option maxRecDepth 100000 in
theorem compareFunc_any (nm : ByteArray) (UA LA : Option Addr) (un uc ln lc b : Nat) (L : List (List ByteArray)) (A1 A2 : Option Addr) (n1 c1 n2 c2 : Nat) (xs ys : List ByteArray) (w : World) (B : Nat) (hbox : BoxOr w b nm UA un uc LA ln lc)
    (hL : RowsR w B LA ln L) (hB : B ≤ w.heap.size) (hz : SizedL L) (hx : SR w w.heap.size A1 n1 xs) (hy : SR w w.heap.size A2 n2 ys) (hzx : SzS xs) (hzy : SzS ys) :
    Calls Tryz.prog 54 #[.slice A1 n1 c1, .slice A2 n2 c2, .func (.func 49) #[] #[.pointer (some ⟨b, 0, none⟩)]] w fun e w' => e = .returned (.int .i64 (cmpT (cmpL L) xs ys)) ∧ Below w.heap.size w w' := by
  have HX := Lib.hid hx
  have HY := Lib.hid hy
  have HN1 := Lib.hid hx.len
  have HN2 := Lib.hid hy.len
  have HZX := Lib.hid hzx
  have HZY := Lib.hid hzy
  have hn1 : n1 ≤ 1000 := by rw [← hx.len]; exact hzx.1
  have hn2 : n2 ≤ 1000 := by rw [← hy.len]; exact hzy.1
  have HC := Lib.hid fun (W : World) (hW : Below w.heap.size w W) (s t : ByteArray) (hs : s.size ≤ 1099511627776) (ht : t.size ≤ 1099511627776) => word_any nm UA LA un uc ln lc b L s t W B (hbox.on hW) (hL.below (hW.mono hB)) (Nat.le_trans hB hW.size) hz hs ht
  clear hx hy hzx hzy hL hz hbox
  go_enter Tryz.func54, Tryz.ntmps54
  go_wp2_with fail
  go_loopw [7, 8, 9, 10, 13] (fun v7 v8 v9 v10 v13 wr => ∃ i : Nat, i ≤ n1 ∧ i ≤ n2 ∧ v13 = .int .i64 i ∧ Hid (cmpT (cmpL L) xs ys = cmpT (cmpL L) (xs.drop i) (ys.drop i)) ∧ Hid (Below w.heap.size w wr)) (fun _ _ _ _ v13 _ => n1 - (intOf v13).toNat)
  case atStart => exact ⟨0, Nat.zero_le _, Nat.zero_le _, rfl, rfl, Below.refl _ _⟩
  case round =>
    obtain ⟨i, hi, hj, rfl, HE, HB0⟩ := hrel
    by_cases h1 : i < n1
    · have hiz : (i : Int) < (n1 : Int) := by omega
      have hiA : (0 : Int) ≤ (i : Int) := by omega
      obtain ⟨ad, x, rfl, hab, hx, hcx⟩ := HX.out.at_ h1
      have q3 : wr.cell? (ad.add i) = some (.string x) := (HB0.out.cell (by rw [block_of_add]; exact hab)).trans hcx
      have HXX := Lib.hid hx
      have hsx := HZX.out.2 x (List.mem_of_getElem? hx)
      have HI := Lib.hid h1
      clear hx hcx
      by_cases h2 : i < n2
      · have hjz : (i : Int) < (n2 : Int) := by omega
        have hjn : ¬ (n2 : Int) ≤ (i : Int) := by omega
        obtain ⟨bd, y, rfl, hbb, hy, hcy⟩ := HY.out.at_ h2
        have HYY := Lib.hid hy
        have hsy := HZY.out.2 y (List.mem_of_getElem? hy)
        have q4 : wr.cell? (bd.add i) = some (.string y) := (HB0.out.cell (by rw [block_of_add]; exact hbb)).trans hcy
        have HCC := Lib.hid (HC.out wr HB0.out x y (by omega) (by omega))
        have HJ := Lib.hid h2
        obtain ⟨z, hzv⟩ : ∃ z, cmpL L x y = z := ⟨_, rfl⟩
        have HZV : Hid (cmpL L x y = z) := hzv
        rw [hzv] at HCC
        have hent := enters_word
        clear hy hcy hsx hsy hzv
        go_wp2_with fail
        refine HCC.out.mono ?_
        rintro e w1 ⟨rfl, hb⟩
        have HB1 : Hid (Below w.heap.size w w1) := HB0.out.trans (hb.mono HB0.out.size)
        clear hb q3 q4 HCC
        by_cases hz : z = 0
        · subst hz
          have HE2 := Lib.hid (cmpT_next HE.out HXX.out HYY.out HZV.out)
          go_wp2
          go_roundw
          case rel => exact ⟨i + 1, HI.out, HJ.out, by go_num, HE2, HB1⟩
          case measure => have := HI.out; simp [intOf]; omega
        · have hne : (z != 0) = true := by rw [bne_iff_ne]; exact hz
          have HRES := Lib.hid ((cmpT_here HE.out HXX.out HYY.out (by rw [HZV.out]; exact hz)).trans HZV.out)
          go_wp2
          go_ret
          exact ⟨ret_i64 HRES.out.symm, HB1.out⟩
      · have h3 : i = n2 := by omega
        have hjz : (n2 : Int) ≤ (i : Int) := by omega
        have HRES := Lib.hid (cmpT_end HE.out (by rw [HN1.out]; exact hi) (by rw [HN2.out]; exact hj) (by rw [HN1.out, HN2.out]; omega))
        rw [HN1.out, HN2.out] at HRES
        have HR2 : Hid (cmpT (cmpL L) xs ys = 1) := by show _ = _; rw [HRES.out, if_neg (by omega), if_pos (by omega)]
        clear h3
        go_wp2
        go_ret
        exact ⟨ret_i64 HR2.out.symm, HB0.out⟩
    · have h2 : i = n1 := by omega
      subst h2
      have hiz : ¬ (i : Int) < (i : Int) := by omega
      have HRES := Lib.hid (cmpT_end HE.out (by rw [HN1.out]; exact hi) (by rw [HN2.out]; exact hj) (by rw [HN1.out, HN2.out]; omega))
      rw [HN1.out, HN2.out] at HRES
      by_cases h3 : i < n2
      · have hq : (i : Int) < (n2 : Int) := by omega
        have HR2 : Hid (cmpT (cmpL L) xs ys = -1) := by show _ = _; rw [HRES.out, if_pos h3]
        go_wp2
        go_ret
        exact ⟨ret_i64 HR2.out.symm, HB0.out⟩
      · have h4 : i = n2 := by omega
        subst h4
        have hq : ¬ (i : Int) < (i : Int) := by omega
        have HR2 : Hid (cmpT (cmpL L) xs ys = 0) := by show _ = _; rw [HRES.out, if_neg h3, if_neg h3]
        go_wp2
        go_ret
        exact ⟨ret_i64 HR2.out.symm, HB0.out⟩
/-- The first that is not zero. -/
def orI (l : List Int) : Int := (l.find? fun z => decide (z ≠ 0)).getD 0
theorem orI_here {l : List Int} {k : Nat} {x : Int} (hp : ∀ j y, j < k → l[j]? = some y → y = 0) (hx : l[k]? = some x) (h : x ≠ 0) : orI l = x := by
  induction l generalizing k with
  | nil => simp at hx
  | cons y t ih =>
    unfold orI
    cases k with
    | zero =>
      simp at hx
      subst hx
      rw [List.find?_cons_of_pos (by simpa using h)]
      rfl
    | succ k =>
      rw [List.find?_cons_of_neg (by simpa using hp 0 y (by omega) rfl)]
      rw [List.getElem?_cons_succ] at hx
      exact ih (fun j z hj hz => hp (j + 1) z (by omega) (by rw [List.getElem?_cons_succ]; exact hz)) hx
theorem orI_none {l : List Int} (hp : ∀ j y, j < l.length → l[j]? = some y → y = 0) : orI l = 0 := by
  unfold orI
  rw [List.find?_eq_none.2 fun x hx => by
    obtain ⟨j, hj⟩ := List.getElem?_of_mem hx
    simpa using hp j x (List.getElem?_eq_some_iff.1 hj).1 hj]
  rfl
theorem zero_step {l : List Int} {i : Nat} {x : Int} (h : ∀ j y, j < i → l[j]? = some y → y = 0) (hx : l[i]? = some x) (hq : x = 0) : ∀ j y, j < i + 1 → l[j]? = some y → y = 0 := fun j y hj hy => by
  by_cases e : j = i
  · subst e
    rw [hx] at hy
    cases hy
    exact hq
  · exact h j y (by omega) hy
set_option maxHeartbeats 1000000 in
theorem cmpOr_any (A : Option Addr) (n c : Nat) (l : List Int) (w : World) (hl : IR w w.heap.size A n l) (hn : n ≤ 1000) :
    Calls Tryz.prog 53 #[.slice A n c] w fun e w' => e = .returned (.int .i64 (orI l)) ∧ w' = w := by
  have HL := Lib.hid hl
  have HN := Lib.hid hl.len
  clear hl
  go_enter Tryz.func53, Tryz.ntmps53
  go_wp2_with fail
  go_loop [5, 8] (fun v5 v8 => ∃ i : Nat, i ≤ n ∧ v8 = .int .i64 i ∧ Hid (∀ j y, j < i → l[j]? = some y → y = 0)) (fun _ v8 => n - (intOf v8).toNat)
  case atStart => exact ⟨0, Nat.zero_le _, rfl, fun j y h => by omega⟩
  case round =>
    obtain ⟨i, hi, rfl, HP⟩ := hrel
    by_cases hlt : i < n
    · have hiz : (i : Int) < (n : Int) := by omega
      have hiA : (0 : Int) ≤ (i : Int) := by omega
      obtain ⟨ad, x, rfl, _, hx, hc⟩ := HL.out.at_ hlt
      have HX := Lib.hid hx
      have HI := Lib.hid hlt
      clear hx
      by_cases h0 : x = 0
      · have HP2 := Lib.hid (zero_step HP.out HX.out h0)
        subst h0
        go_wp2
        go_round
        case rel => exact ⟨i + 1, HI.out, by go_num, HP2⟩
        case measure => have := HI.out; simp [intOf]; omega
      · have hne : (x != 0) = true := by rw [bne_iff_ne]; exact h0
        have HR := Lib.hid (orI_here HP.out HX.out h0)
        go_wp2
        go_ret
        exact ⟨ret_i64 HR.out.symm, rfl⟩
    · obtain rfl : n = i := by omega
      have hiz : ¬ (n : Int) < (n : Int) := by omega
      have HR : Hid (orI l = 0) := orI_none fun j y hj => HP.out j y (by rw [← HN.out]; exact hj)
      go_wp2
      go_ret
      exact ⟨ret_i64 HR.out.symm, rfl⟩
end Go.Proofs.YtdpllfgnppeneaaGreatDoor
