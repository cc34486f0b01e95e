import Derived.Test.YtacfeabdeaikhaaDoorBase
namespace Go.Proofs.YtacfeabdeaikhaaDoor
open Go.RowKit
set_option linter.unusedVariables false
set_option linter.unusedSimpArgs false

set_option maxHeartbeats 400000 in
theorem equal_strs (A B : Option Addr) (n m c d : Nat) (xs ys : List ByteArray) (w : World) (ha : SR w w.heap.size A n xs) (hb : SR w w.heap.size B m ys)
    (hn : n ≤ 9223372036854775807) (hm : m ≤ 9223372036854775807) :
    Calls Tryd.prog 24 #[.slice A n c, .slice B m d] w fun e w' => e = .returned (.bool (decide (xs = ys))) ∧ ∃ k, w' = w.drewN k := by
  have hxl : xs.length = n := ha.len
  have hyl : ys.length = m := hb.len
  by_cases hnm : n = m
  · subst hnm
    have HX := Lib.hid hxl; clear hxl
    have HY := Lib.hid hyl; clear hyl
    go_enter Tryd.func24, Tryd.ntmps24
    go_wp2
    go_loopw [5] (fun i wr => ∃ k : Nat, k ≤ n ∧ i = .int .i64 k ∧ Hid (xs.take k = ys.take k) ∧ Hid (∃ q, wr = w.drewN q)) (fun i _ => n - (intOf i).toNat)
    case atStart => exact ⟨0, Nat.zero_le _, rfl, rfl, ⟨0, rfl⟩⟩
    case round =>
      obtain ⟨k, hk, rfl, hpre, HZ⟩ := hrel
      by_cases hlt : k < n
      · obtain ⟨ad, x, rfl, _, hx, hcx⟩ := ha.at_ hlt
        obtain ⟨bd, y, rfl, _, hy, hcy⟩ := hb.at_ hlt
        have HXK := Lib.hid hx; clear hx
        have HYK := Lib.hid hy; clear hy
        replace hcx : wr.cell? (ad.add k) = _ := cell_z HZ hcx
        replace hcy : wr.cell? (bd.add k) = _ := cell_z HZ hcy
        have hkn : (k : Int) < (n : Int) := by omega
        by_cases hxy : x = y
        · subst hxy
          have HNEXT : Hid (xs.take (k + 1) = ys.take (k + 1)) := take_snoc_eq hpre.out HXK.out HYK.out rfl
          go_wp2_with fail
          go_quiet (fail)
          go_wp2
          go_roundw
          case rel => exact ⟨k + 1, by omega, by go_num, HNEXT, drew_z HZ _⟩
          case measure => simp [intOf]; omega
        · have hne : (x.toList == y.toList) = false := by
            rw [Lib.toList_data, Lib.toList_data]
            refine beq_eq_false_iff_ne.2 fun e => hxy ?_
            cases x with | mk d => cases y with | mk e' => cases d with | mk p => cases e' with | mk q => simp at e; rw [e]
          have HRES : Hid (decide (xs = ys) = false) := decide_eq_false fun he => by
            have h1 := HXK.out
            rw [he, HYK.out] at h1
            injection h1 with h1
            exact hxy h1.symm
          go_wp2_with fail
          go_quiet (fail)
          go_wp2
          go_ret
          exact ⟨ret_bool HRES.out.symm, drew_z HZ _⟩
      · obtain rfl : n = k := by omega
        have HRES : Hid (decide (xs = ys) = true) := by
          have h1 := hpre.out
          rw [List.take_of_length_le (by rw [HX.out]; exact Nat.le_refl _), List.take_of_length_le (by rw [HY.out]; exact Nat.le_refl _)] at h1
          exact decide_eq_true h1
        go_wp2
        go_ret
        exact ⟨ret_bool HRES.out.symm, HZ.out⟩
  · have hd : ((n : Int) != (m : Int)) = true := by rw [bne_iff_ne]; omega
    have HRES : Hid (decide (xs = ys) = false) := decide_eq_false fun he => hnm (by rw [← hxl, ← hyl, he])
    go_enter Tryd.func24, Tryd.ntmps24
    go_wp2
    go_ret
    exact ⟨ret_bool HRES.out.symm, 0, rfl⟩
end Go.Proofs.YtacfeabdeaikhaaDoor
