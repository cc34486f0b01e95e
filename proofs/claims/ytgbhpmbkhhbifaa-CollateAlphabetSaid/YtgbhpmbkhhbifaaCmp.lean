import Derived.Test.YtgbhpmbkhhbifaaSame
import Derived.Test.YtgbhpmbkhhbifaaPlainCmp
import Derived.Test.YtgbhpmbkhhbifaaQuietB
import Derived.WalkLawsBesides
namespace Go.Proofs.Ytgbhpmbkhhbifaa
open Go.RowKit Col
set_option linter.unusedVariables false
set_option linter.unusedSimpArgs false

theorem bytes_at {w : World} {B : Nat} {A : Option Addr} {n k : Nat} {xs : List Int} (h : Reads w B 1 A n (xs.map (.int .u8))) (hk : k < n) :
    ∃ ad x, A = some ad ∧ ad.block < B ∧ xs[k]? = some x ∧ w.cell? (ad.add k) = some (.int .u8 x) := by
  obtain ⟨ad, u, e, hb, hx, hc⟩ := h.at_ hk
  rw [List.getElem?_map] at hx
  cases hz : xs[k]? with
  | none => rw [hz] at hx; cases hx
  | some x => rw [hz] at hx; cases hx; exact ⟨ad, x, e, hb, rfl, hc⟩
theorem cell_z {w wr : World} {a : Addr} {v : Value} (hz : Hid (∃ z, wr = w.drewN z)) (h : w.cell? a = some v) : wr.cell? a = some v := by
  obtain ⟨z, rfl⟩ := hz.out
  exact h
theorem drew_z {w wr : World} (hz : Hid (∃ z, wr = w.drewN z)) (k : Nat) : ∃ z, wr.drewN k = w.drewN z := by
  obtain ⟨z, rfl⟩ := hz.out
  exact ⟨_, World.drewN_drewN _ _ _⟩
theorem ret_i64 {a b : Int} (h : a = b) : Ending.returned (.int .i64 a) = .returned (.int .i64 b) := by rw [h]

set_option maxHeartbeats 400000 in
theorem cmpc_int (a b : Int) (w : World) : Calls Try.prog 44 #[.int .i64 a, .int .i64 b] w fun e w' => e = .returned (.int .i64 (cmpN a b)) ∧ w = w' := by
  by_cases h1 : a < b
  · go_enter Try.func44, Try.ntmps44
    go_wp2
    go_ret
    exact ⟨by simp [cmpN, h1], rfl⟩
  · by_cases h2 : b < a
    · go_enter Try.func44, Try.ntmps44
      go_wp2
      go_ret
      exact ⟨by simp [cmpN, h1, h2], rfl⟩
    · obtain rfl : a = b := by omega
      go_enter Try.func44, Try.ntmps44
      go_wp2
      go_ret
      exact ⟨by simp [cmpN], rfl⟩

set_option maxHeartbeats 400000 in
theorem cmpc_byte (a b : Int) (w : World) : Calls Try.prog 45 #[.int .u8 a, .int .u8 b] w fun e w' => e = .returned (.int .i64 (cmpN a b)) ∧ w = w' := by
  by_cases h1 : a < b
  · go_enter Try.func45, Try.ntmps45
    go_wp2
    go_ret
    exact ⟨by simp [cmpN, h1], rfl⟩
  · by_cases h2 : b < a
    · go_enter Try.func45, Try.ntmps45
      go_wp2
      go_ret
      exact ⟨by simp [cmpN, h1, h2], rfl⟩
    · obtain rfl : a = b := by omega
      go_enter Try.func45, Try.ntmps45
      go_wp2
      go_ret
      exact ⟨by simp [cmpN], rfl⟩

set_option maxHeartbeats 1000000 in
theorem compare_ints (A B : Option Addr) (n m c d : Nat) (xs ys : List Int) (w : World) (ha : Reads w w.heap.size 1 A n (xs.map (.int .i64))) (hb : Reads w w.heap.size 1 B m (ys.map (.int .i64)))
    (hn : n ≤ 9223372036854775807) (hm : m ≤ 9223372036854775807) :
    Calls Try.prog 32 #[.slice A n c, .slice B m d] w fun e w' => e = .returned (.int .i64 (cmpI xs ys)) ∧ ∃ k, w' = w.drewN k := by
  have hxl : xs.length = n := by simpa using ha.1
  have hyl : ys.length = m := by simpa using hb.1
  have HX := Lib.hid hxl; clear hxl
  have HY := Lib.hid hyl; clear hyl
  by_cases hnm : n ≤ m
  · have hz : ¬ (m : Int) < (n : Int) := by omega
    go_enter Try.func32, Try.ntmps32
    go_wp2_with fail
    go_loopw [5, 6, 12] (fun _ _ i wr => ∃ k : Nat, k ≤ n ∧ i = .int .i64 k ∧ Hid (xs.take k = ys.take k) ∧ Hid (∃ z, wr = w.drewN z)) (fun _ _ i _ => n - (intOf i).toNat)
    case atStart => exact ⟨0, Nat.zero_le _, rfl, rfl, ⟨0, rfl⟩⟩
    case round =>
      obtain ⟨k, hk, rfl, hpre, HZ⟩ := hrel
      by_cases hlt : k < n
      · obtain ⟨ad, x, rfl, _, hx, hcx⟩ := ints_at ha (k := k) (by omega)
        obtain ⟨bd, y, rfl, _, hy, hcy⟩ := ints_at hb (k := k) (by omega)
        have HXK := Lib.hid hx; clear hx
        have HYK := Lib.hid hy; clear hy
        have hkn : (k : Int) < (n : Int) := by omega
        have hkm : (k : Int) < (m : Int) := by omega
        obtain ⟨r, hr⟩ : ∃ r, Hid (cmpN x y = r) := ⟨_, rfl⟩
        replace hcx : wr.cell? (ad.add k) = _ := cell_z HZ hcx
        replace hcy : wr.cell? (bd.add k) = _ := cell_z HZ hcy
        have hc := fun W => (cmpc_int x y W).mono (R' := fun e w' => e = .returned (.int .i64 (cmpN x y)) ∧ w' = W) (fun _ _ ⟨h1, h2⟩ => ⟨h1, h2.symm⟩)
        rw [hr.out] at hc
        have HCC := Lib.hid hc; clear hc
        by_cases h0 : r = 0
        · subst h0
          have HNEXT : Hid (xs.take (k + 1) = ys.take (k + 1)) := take_snoc_eq hpre.out HXK.out HYK.out (cmpN_zero hr.out)
          go_wp2_with fail
          go_quiet ((go_at_call 44; exact Calls.quiet_of_same (HCC.out _)))
          go_wp2
          go_roundw
          case rel => exact ⟨k + 1, by omega, by go_num, HNEXT, drew_z HZ _⟩
          case measure => simp [intOf]; omega
        · have hne : (r != 0) = true := by rw [bne_iff_ne]; exact h0
          have HRES : Hid (cmpI xs ys = r) := by
            have := cmpI_at hpre.out HXK.out HYK.out (by rw [hr.out]; exact h0)
            rw [hr.out] at this
            exact this
          go_wp2_with fail
          go_quiet ((go_at_call 44; exact Calls.quiet_of_same (HCC.out _)))
          go_wp2
          go_ret
          exact ⟨ret_i64 HRES.out.symm, drew_z HZ _⟩
      · obtain rfl : n = k := by omega
        have HEND : Hid (cmpI xs ys = cmpN (n : Int) (m : Int)) := by
          have := cmpI_end (l := xs) (m := ys) (by rw [HX.out, HY.out, show min n m = n by omega]; exact hpre.out)
          rw [HX.out, HY.out] at this
          exact this
        go_wp2_with (go_at_call 44; refine (cmpc_int _ _ _).mono ?_; rintro e w' ⟨rfl, rfl⟩)
        go_ret
        exact ⟨ret_i64 HEND.out.symm, HZ.out⟩
  · have hz : (m : Int) < (n : Int) := by omega
    go_enter Try.func32, Try.ntmps32
    go_wp2_with fail
    go_loopw [5, 6, 12] (fun _ _ i wr => ∃ k : Nat, k ≤ m ∧ i = .int .i64 k ∧ Hid (xs.take k = ys.take k) ∧ Hid (∃ z, wr = w.drewN z)) (fun _ _ i _ => m - (intOf i).toNat)
    case atStart => exact ⟨0, Nat.zero_le _, rfl, rfl, ⟨0, rfl⟩⟩
    case round =>
      obtain ⟨k, hk, rfl, hpre, HZ⟩ := hrel
      by_cases hlt : k < m
      · obtain ⟨ad, x, rfl, _, hx, hcx⟩ := ints_at ha (k := k) (by omega)
        obtain ⟨bd, y, rfl, _, hy, hcy⟩ := ints_at hb (k := k) (by omega)
        have HXK := Lib.hid hx; clear hx
        have HYK := Lib.hid hy; clear hy
        have hkn : (k : Int) < (n : Int) := by omega
        have hkm : (k : Int) < (m : Int) := by omega
        obtain ⟨r, hr⟩ : ∃ r, Hid (cmpN x y = r) := ⟨_, rfl⟩
        replace hcx : wr.cell? (ad.add k) = _ := cell_z HZ hcx
        replace hcy : wr.cell? (bd.add k) = _ := cell_z HZ hcy
        have hc := fun W => (cmpc_int x y W).mono (R' := fun e w' => e = .returned (.int .i64 (cmpN x y)) ∧ w' = W) (fun _ _ ⟨h1, h2⟩ => ⟨h1, h2.symm⟩)
        rw [hr.out] at hc
        have HCC := Lib.hid hc; clear hc
        by_cases h0 : r = 0
        · subst h0
          have HNEXT : Hid (xs.take (k + 1) = ys.take (k + 1)) := take_snoc_eq hpre.out HXK.out HYK.out (cmpN_zero hr.out)
          go_wp2_with fail
          go_quiet ((go_at_call 44; exact Calls.quiet_of_same (HCC.out _)))
          go_wp2
          go_roundw
          case rel => exact ⟨k + 1, by omega, by go_num, HNEXT, drew_z HZ _⟩
          case measure => simp [intOf]; omega
        · have hne : (r != 0) = true := by rw [bne_iff_ne]; exact h0
          have HRES : Hid (cmpI xs ys = r) := by
            have := cmpI_at hpre.out HXK.out HYK.out (by rw [hr.out]; exact h0)
            rw [hr.out] at this
            exact this
          go_wp2_with fail
          go_quiet ((go_at_call 44; exact Calls.quiet_of_same (HCC.out _)))
          go_wp2
          go_ret
          exact ⟨ret_i64 HRES.out.symm, drew_z HZ _⟩
      · obtain rfl : m = k := by omega
        have HEND : Hid (cmpI xs ys = cmpN (n : Int) (m : Int)) := by
          have := cmpI_end (l := xs) (m := ys) (by rw [HX.out, HY.out, show min n m = m by omega]; exact hpre.out)
          rw [HX.out, HY.out] at this
          exact this
        go_wp2_with (go_at_call 44; refine (cmpc_int _ _ _).mono ?_; rintro e w' ⟨rfl, rfl⟩)
        go_ret
        exact ⟨ret_i64 HEND.out.symm, HZ.out⟩

set_option maxHeartbeats 1000000 in
theorem compare_bytes (A B : Option Addr) (n m c d : Nat) (xs ys : List Int) (w : World) (ha : Reads w w.heap.size 1 A n (xs.map (.int .u8))) (hb : Reads w w.heap.size 1 B m (ys.map (.int .u8)))
    (hn : n ≤ 9223372036854775807) (hm : m ≤ 9223372036854775807) :
    Calls Try.prog 33 #[.slice A n c, .slice B m d] w fun e w' => e = .returned (.int .i64 (cmpI xs ys)) ∧ ∃ k, w' = w.drewN k := by
  have hxl : xs.length = n := by simpa using ha.1
  have hyl : ys.length = m := by simpa using hb.1
  have HX := Lib.hid hxl; clear hxl
  have HY := Lib.hid hyl; clear hyl
  by_cases hnm : n ≤ m
  · have hz : ¬ (m : Int) < (n : Int) := by omega
    go_enter Try.func33, Try.ntmps33
    go_wp2_with fail
    go_loopw [5, 6, 12] (fun _ _ i wr => ∃ k : Nat, k ≤ n ∧ i = .int .i64 k ∧ Hid (xs.take k = ys.take k) ∧ Hid (∃ z, wr = w.drewN z)) (fun _ _ i _ => n - (intOf i).toNat)
    case atStart => exact ⟨0, Nat.zero_le _, rfl, rfl, ⟨0, rfl⟩⟩
    case round =>
      obtain ⟨k, hk, rfl, hpre, HZ⟩ := hrel
      by_cases hlt : k < n
      · obtain ⟨ad, x, rfl, _, hx, hcx⟩ := bytes_at ha (k := k) (by omega)
        obtain ⟨bd, y, rfl, _, hy, hcy⟩ := bytes_at hb (k := k) (by omega)
        have HXK := Lib.hid hx; clear hx
        have HYK := Lib.hid hy; clear hy
        have hkn : (k : Int) < (n : Int) := by omega
        have hkm : (k : Int) < (m : Int) := by omega
        obtain ⟨r, hr⟩ : ∃ r, Hid (cmpN x y = r) := ⟨_, rfl⟩
        replace hcx : wr.cell? (ad.add k) = _ := cell_z HZ hcx
        replace hcy : wr.cell? (bd.add k) = _ := cell_z HZ hcy
        have hc := fun W => (cmpc_byte x y W).mono (R' := fun e w' => e = .returned (.int .i64 (cmpN x y)) ∧ w' = W) (fun _ _ ⟨h1, h2⟩ => ⟨h1, h2.symm⟩)
        rw [hr.out] at hc
        have HCC := Lib.hid hc; clear hc
        by_cases h0 : r = 0
        · subst h0
          have HNEXT : Hid (xs.take (k + 1) = ys.take (k + 1)) := take_snoc_eq hpre.out HXK.out HYK.out (cmpN_zero hr.out)
          go_wp2_with fail
          go_quiet ((go_at_call 45; exact Calls.quiet_of_same (HCC.out _)))
          go_wp2
          go_roundw
          case rel => exact ⟨k + 1, by omega, by go_num, HNEXT, drew_z HZ _⟩
          case measure => simp [intOf]; omega
        · have hne : (r != 0) = true := by rw [bne_iff_ne]; exact h0
          have HRES : Hid (cmpI xs ys = r) := by
            have := cmpI_at hpre.out HXK.out HYK.out (by rw [hr.out]; exact h0)
            rw [hr.out] at this
            exact this
          go_wp2_with fail
          go_quiet ((go_at_call 45; exact Calls.quiet_of_same (HCC.out _)))
          go_wp2
          go_ret
          exact ⟨ret_i64 HRES.out.symm, drew_z HZ _⟩
      · obtain rfl : n = k := by omega
        have HEND : Hid (cmpI xs ys = cmpN (n : Int) (m : Int)) := by
          have := cmpI_end (l := xs) (m := ys) (by rw [HX.out, HY.out, show min n m = n by omega]; exact hpre.out)
          rw [HX.out, HY.out] at this
          exact this
        go_wp2_with (go_at_call 44; refine (cmpc_int _ _ _).mono ?_; rintro e w' ⟨rfl, rfl⟩)
        go_ret
        exact ⟨ret_i64 HEND.out.symm, HZ.out⟩
  · have hz : (m : Int) < (n : Int) := by omega
    go_enter Try.func33, Try.ntmps33
    go_wp2_with fail
    go_loopw [5, 6, 12] (fun _ _ i wr => ∃ k : Nat, k ≤ m ∧ i = .int .i64 k ∧ Hid (xs.take k = ys.take k) ∧ Hid (∃ z, wr = w.drewN z)) (fun _ _ i _ => m - (intOf i).toNat)
    case atStart => exact ⟨0, Nat.zero_le _, rfl, rfl, ⟨0, rfl⟩⟩
    case round =>
      obtain ⟨k, hk, rfl, hpre, HZ⟩ := hrel
      by_cases hlt : k < m
      · obtain ⟨ad, x, rfl, _, hx, hcx⟩ := bytes_at ha (k := k) (by omega)
        obtain ⟨bd, y, rfl, _, hy, hcy⟩ := bytes_at hb (k := k) (by omega)
        have HXK := Lib.hid hx; clear hx
        have HYK := Lib.hid hy; clear hy
        have hkn : (k : Int) < (n : Int) := by omega
        have hkm : (k : Int) < (m : Int) := by omega
        obtain ⟨r, hr⟩ : ∃ r, Hid (cmpN x y = r) := ⟨_, rfl⟩
        replace hcx : wr.cell? (ad.add k) = _ := cell_z HZ hcx
        replace hcy : wr.cell? (bd.add k) = _ := cell_z HZ hcy
        have hc := fun W => (cmpc_byte x y W).mono (R' := fun e w' => e = .returned (.int .i64 (cmpN x y)) ∧ w' = W) (fun _ _ ⟨h1, h2⟩ => ⟨h1, h2.symm⟩)
        rw [hr.out] at hc
        have HCC := Lib.hid hc; clear hc
        by_cases h0 : r = 0
        · subst h0
          have HNEXT : Hid (xs.take (k + 1) = ys.take (k + 1)) := take_snoc_eq hpre.out HXK.out HYK.out (cmpN_zero hr.out)
          go_wp2_with fail
          go_quiet ((go_at_call 45; exact Calls.quiet_of_same (HCC.out _)))
          go_wp2
          go_roundw
          case rel => exact ⟨k + 1, by omega, by go_num, HNEXT, drew_z HZ _⟩
          case measure => simp [intOf]; omega
        · have hne : (r != 0) = true := by rw [bne_iff_ne]; exact h0
          have HRES : Hid (cmpI xs ys = r) := by
            have := cmpI_at hpre.out HXK.out HYK.out (by rw [hr.out]; exact h0)
            rw [hr.out] at this
            exact this
          go_wp2_with fail
          go_quiet ((go_at_call 45; exact Calls.quiet_of_same (HCC.out _)))
          go_wp2
          go_ret
          exact ⟨ret_i64 HRES.out.symm, drew_z HZ _⟩
      · obtain rfl : m = k := by omega
        have HEND : Hid (cmpI xs ys = cmpN (n : Int) (m : Int)) := by
          have := cmpI_end (l := xs) (m := ys) (by rw [HX.out, HY.out, show min n m = m by omega]; exact hpre.out)
          rw [HX.out, HY.out] at this
          exact this
        go_wp2_with (go_at_call 44; refine (cmpc_int _ _ _).mono ?_; rintro e w' ⟨rfl, rfl⟩)
        go_ret
        exact ⟨ret_i64 HEND.out.symm, HZ.out⟩

def orL : List Int → Int
  | [] => 0
  | x :: l => if x = 0 then orL l else x
theorem orL_drop {l : List Int} {k : Nat} {x : Int} (h : l[k]? = some x) : orL (l.drop k) = if x = 0 then orL (l.drop (k + 1)) else x := by
  rw [List.drop_eq_getElem_cons (List.getElem?_eq_some_iff.1 h).1, (List.getElem?_eq_some_iff.1 h).2]
  rfl
set_option maxHeartbeats 400000 in
theorem or_ints (A : Option Addr) (n c : Nat) (xs : List Int) (w : World) (ha : Reads w w.heap.size 1 A n (xs.map (.int .i64))) (hn : n ≤ 9223372036854775807) :
    Calls Try.prog 31 #[.slice A n c] w fun e w' => e = .returned (.int .i64 (orL xs)) ∧ w = w' := by
  have hxl : xs.length = n := by simpa using ha.1
  have HX := Lib.hid hxl; clear hxl
  go_enter Try.func31, Try.ntmps31
  go_wp2
  go_loop [5, 8] (fun _ i => ∃ k : Nat, k ≤ n ∧ i = .int .i64 k ∧ Hid (orL (xs.drop k) = orL xs)) (fun _ i => n - (intOf i).toNat)
  case atStart => exact ⟨0, Nat.zero_le _, rfl, rfl⟩
  case round =>
    obtain ⟨k, hk, rfl, hpre⟩ := hrel
    by_cases hlt : k < n
    · obtain ⟨ad, x, rfl, _, hx, hcx⟩ := ints_at ha (k := k) (by omega)
      have HXK := Lib.hid hx; clear hx
      by_cases h0 : x = 0
      · subst h0
        have HN : Hid (orL (xs.drop (k + 1)) = orL xs) := by
          have := orL_drop HXK.out
          rw [if_pos rfl] at this
          show _ = _
          rw [← this]; exact hpre.out
        go_wp2
        go_round
        case rel => exact ⟨k + 1, by omega, by go_num, HN⟩
        case measure => simp [intOf]; omega
      · have HN : Hid (orL xs = x) := by
          have := orL_drop HXK.out
          rw [if_neg h0, hpre.out] at this
          exact this
        have hne : (x != 0) = true := by rw [bne_iff_ne]; exact h0
        go_wp2
        go_ret
        exact ⟨ret_i64 HN.out.symm, rfl⟩
    · obtain rfl : k = n := by omega
      go_wp2
      go_ret
      refine ⟨ret_i64 ?_, rfl⟩
      have := hpre.out
      rw [← HX.out, List.drop_length] at this
      exact this
set_option maxHeartbeats 1000000 in
theorem order_ints (A B : Option Addr) (n m c d : Nat) (xs ys : List Int) (w : World) (ha : Reads w w.heap.size 1 A n (xs.map (.int .i64))) (hb : Reads w w.heap.size 1 B m (ys.map (.int .i64)))
    (hn : n ≤ 9223372036854775807) (hm : m ≤ 9223372036854775807) :
    Calls Try.prog 34 #[.slice A n c, .slice B m d] w fun e w' => e = .returned (.int .i64 (cmpI xs ys)) ∧ ∃ k, w' = w.drewN k := by
  have hxl : xs.length = n := by simpa using ha.1
  have hyl : ys.length = m := by simpa using hb.1
  have HX := Lib.hid hxl; clear hxl
  have HY := Lib.hid hyl; clear hyl
  go_enter Try.func34, Try.ntmps34
  go_wp2_with fail
  go_loopw [5] (fun i wr => ∃ k : Nat, k ≤ n ∧ k ≤ m ∧ i = .int .i64 k ∧ Hid (xs.take k = ys.take k) ∧ Hid (∃ z, wr = w.drewN z)) (fun i _ => n - (intOf i).toNat)
  case atStart => exact ⟨0, Nat.zero_le _, Nat.zero_le _, rfl, rfl, ⟨0, rfl⟩⟩
  case round =>
    obtain ⟨k, hk, hk2, rfl, hpre, HZ⟩ := hrel
    by_cases hlt : k < n
    · by_cases hlt2 : k < m
      · obtain ⟨ad, x, rfl, _, hx, hcx⟩ := ints_at ha (k := k) (by omega)
        obtain ⟨bd, y, rfl, _, hy, hcy⟩ := ints_at hb (k := k) (by omega)
        have HXK := Lib.hid hx; clear hx
        have HYK := Lib.hid hy; clear hy
        replace hcx : wr.cell? (ad.add k) = _ := cell_z HZ hcx
        replace hcy : wr.cell? (bd.add k) = _ := cell_z HZ hcy
        have hkn : (k : Int) < (n : Int) := by omega
        have hkm : (k : Int) < (m : Int) := by omega
        by_cases h1 : x < y
        · have HRES : Hid (cmpI xs ys = -1) := by
            have := cmpI_at hpre.out HXK.out HYK.out (by simp [cmpN, h1])
            rw [show cmpN x y = -1 by simp [cmpN, h1]] at this
            exact this
          go_wp2_with fail
          go_quiet (fail)
          go_wp2
          go_ret
          exact ⟨ret_i64 HRES.out.symm, (by first | exact drew_z HZ _ | (rw [World.drewN_drewN]; exact drew_z HZ _))⟩
        · by_cases h2 : y < x
          · have HRES : Hid (cmpI xs ys = 1) := by
              have := cmpI_at hpre.out HXK.out HYK.out (by simp [cmpN, h1, h2])
              rw [show cmpN x y = 1 by simp [cmpN, h1, h2]] at this
              exact this
            go_wp2_with fail
            go_quiet (fail)
            go_wp2_with fail
            go_quiet (fail)
            go_wp2
            go_ret
            exact ⟨ret_i64 HRES.out.symm, (by first | exact drew_z HZ _ | (rw [World.drewN_drewN]; exact drew_z HZ _))⟩
          · have HNEXT : Hid (xs.take (k + 1) = ys.take (k + 1)) := take_snoc_eq hpre.out HXK.out HYK.out (by omega)
            go_wp2_with fail
            go_quiet (fail)
            go_wp2_with fail
            go_quiet (fail)
            go_wp2
            go_roundw
            case rel => exact ⟨k + 1, by omega, by omega, by go_num, HNEXT, (by first | exact drew_z HZ _ | (rw [World.drewN_drewN]; exact drew_z HZ _))⟩
            case measure => simp [intOf]; omega
      · obtain rfl : k = m := by omega
        have hz2 : ¬ (k : Int) < (k : Int) := by omega
        have HEND : Hid (cmpI xs ys = 1) := by
          have := cmpI_end (l := xs) (m := ys) (by rw [HX.out, HY.out, show min n k = k by omega]; exact hpre.out)
          rw [HX.out, HY.out] at this
          show _ = _
          rw [this]
          unfold cmpN
          rw [if_neg (by omega), if_pos (by omega)]
        go_wp2
        go_ret
        exact ⟨ret_i64 HEND.out.symm, HZ.out⟩
    · obtain rfl : k = n := by omega
      have HEND : Hid (cmpI xs ys = cmpN (k : Int) (m : Int)) := by
        have := cmpI_end (l := xs) (m := ys) (by rw [HX.out, HY.out, show min k m = k by omega]; exact hpre.out)
        rw [HX.out, HY.out] at this
        exact this
      by_cases h1 : k < m
      · go_wp2
        go_ret
        exact ⟨ret_i64 (by rw [HEND.out]; unfold cmpN; rw [if_pos (by omega)]), HZ.out⟩
      · go_wp2
        go_ret
        exact ⟨ret_i64 (by rw [HEND.out]; unfold cmpN; rw [if_neg (by omega), if_neg (by omega)]), HZ.out⟩
end Go.Proofs.Ytgbhpmbkhhbifaa
