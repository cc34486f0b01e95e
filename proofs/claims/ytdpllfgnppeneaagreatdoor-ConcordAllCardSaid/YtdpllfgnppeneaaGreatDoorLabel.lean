import Derived.Test.YtdpllfgnppeneaaGreatDoorG05
import Derived.Test.YtdpllfgnppeneaaGreatDoorG07
import Derived.Test.YtdpllfgnppeneaaGreatDoorG03
import Derived.Test.YtdpllfgnppeneaaGreatDoorPlainOk
namespace Go.Proofs.YtdpllfgnppeneaaGreatDoor
open Go.RowKit
set_option linter.unusedVariables false
set_option linter.unusedSimpArgs false

theorem getD_byte (s : ByteArray) (k : Nat) (h : k < s.size) : s.data.toList.getD k 0 = s[k] := by
  rw [List.getD, List.getElem?_eq_getElem (by rw [← Lib.size_eq]; exact h)]
  rfl
end Go.Proofs.YtdpllfgnppeneaaGreatDoor
namespace Go.Proofs.YtdpllfgnppeneaaGreatDoor
open Go.RowKit
set_option linter.unusedVariables false
set_option linter.unusedSimpArgs false
set_option maxHeartbeats 4000000 in
theorem name10_any (s : ByteArray) (w : World) (hs : s.size ≤ 9223372036854775807) :
    Calls Tryz.prog 66 #[.string s] w fun e w' => e = .returned (.bool (Ok.nameB s.data.toList)) ∧ w = w' := by
  go_enter Tryz.func66, Tryz.ntmps66
  go_wp2
  go_loop [3, 4] (fun v _ => ∃ k : Nat, k ≤ s.size ∧ v = .int .i64 k ∧ Hid (Ok.allTo (fun i => Ok.smallB (s.data.toList.getD i 0) || (!decide (i = 0) && Ok.innerB (s.data.toList.getD i 0))) k = true)) (fun v _ => s.size - (intOf v).toNat)
  case atStart => exact ⟨0, Nat.zero_le _, rfl, rfl⟩
  case round =>
    obtain ⟨k, hk, rfl, HA⟩ := hrel
    by_cases hlt : k < s.size
    · have HG := Lib.hid (getD_byte s k hlt)
      obtain ⟨b, hb⟩ : ∃ b : Nat, Hid ((s[k]'hlt).toNat = b) := ⟨_, rfl⟩
      have hb256 : b < 256 := by rw [← hb.out]; exact UInt8.toNat_lt _
      have zb : ((s[k]'hlt).toNat : Int) = (b : Int) := by rw [hb.out]
      have HFAIL : Hid ((Ok.smallB (s[k]'hlt) || (!decide (k = 0) && Ok.innerB (s[k]'hlt))) = false → Ok.nameB s.data.toList = false) := fun h => by
        unfold Ok.nameB
        rw [Ok.allTo_false (k := k) (by rw [← Lib.size_eq]; exact hlt) (by rw [HG.out]; exact h)]
        rfl
      have HOK : Hid ((Ok.smallB (s[k]'hlt) || (!decide (k = 0) && Ok.innerB (s[k]'hlt))) = true → Ok.allTo (fun i => Ok.smallB (s.data.toList.getD i 0) || (!decide (i = 0) && Ok.innerB (s.data.toList.getD i 0))) (k + 1) = true) := fun h =>
        Ok.allTo_next HA.out (by simp only [HG.out]; exact h)
      clear HG HA
      unfold Ok.smallB Ok.innerB at HFAIL HOK
      rw [hb.out] at HFAIL HOK
      have ways : (97 ≤ b ∧ b ≤ 122) ∨ (b < 97 ∧ k ≠ 0 ∧ b = 45) ∨ (b < 97 ∧ k ≠ 0 ∧ b = 95) ∨ (b < 97 ∧ k ≠ 0 ∧ b ≠ 45 ∧ b ≠ 95 ∧ 48 ≤ b ∧ b ≤ 57) ∨
        ((b < 97 ∧ k = 0) ∨ (122 < b ∧ k = 0) ∨ (b < 97 ∧ k ≠ 0 ∧ b ≠ 45 ∧ b ≠ 95 ∧ b < 48) ∨ (b < 97 ∧ k ≠ 0 ∧ b ≠ 45 ∧ b ≠ 95 ∧ 57 < b) ∨ (122 < b ∧ k ≠ 0)) := by omega
      rcases ways with ⟨g1, g2⟩ | ⟨g1, g2, g3⟩ | ⟨g1, g2, g3⟩ | ⟨g1, g2, g3, g4, g5, g6⟩ | ways
      · have HN := Lib.hid (HOK.out (by simp [g1, g2]))
        clear HFAIL HOK
        go_wp2
        go_round
        case rel => exact ⟨k + 1, by omega, by go_num, HN⟩
        case measure => simp [intOf]; omega
      · have HN := Lib.hid (HOK.out (by simp [g2, g3]))
        have e1 : ((k : Int) == 0) = false := beq_eq_false_iff_ne.2 (by omega)
        have e2 : ((b : Int) != 45) = false := by simp; omega
        have G3 := Lib.hid g3; clear g3
        clear HFAIL HOK g2
        go_wp2
        go_round
        case rel => exact ⟨k + 1, by omega, by go_num, HN⟩
        case measure => simp [intOf]; omega
      · have HN := Lib.hid (HOK.out (by simp [g2, g3]))
        have e1 : ((k : Int) == 0) = false := beq_eq_false_iff_ne.2 (by omega)
        have e2 : ((b : Int) != 45) = true := by rw [bne_iff_ne]; omega
        have e3 : ((b : Int) != 95) = false := by simp; omega
        have G3 := Lib.hid g3; clear g3
        clear HFAIL HOK g2
        go_wp2
        go_round
        case rel => exact ⟨k + 1, by omega, by go_num, HN⟩
        case measure => simp [intOf]; omega
      · have HN := Lib.hid (HOK.out (by simp [g2, g5, g6]))
        have e1 : ((k : Int) == 0) = false := beq_eq_false_iff_ne.2 (by omega)
        have e2 : ((b : Int) != 45) = true := by rw [bne_iff_ne]; omega
        have e3 : ((b : Int) != 95) = true := by rw [bne_iff_ne]; omega
        clear HFAIL HOK g2 g3 g4
        go_wp2
        go_round
        case rel => exact ⟨k + 1, by omega, by go_num, HN⟩
        case measure => simp [intOf]; omega
      · have HN : Hid (Ok.nameB s.data.toList = false) := HFAIL.out (by
          rcases ways with ⟨g1, g2⟩ | ⟨g1, g2⟩ | ⟨g1, g2, g3, g4, g5⟩ | ⟨g1, g2, g3, g4, g5⟩ | ⟨g1, g2⟩ <;> simp <;> omega)
        clear HFAIL HOK
        rcases ways with ⟨g1, g2⟩ | ⟨g1, g2⟩ | ⟨g1, g2, g3, g4, g5⟩ | ⟨g1, g2, g3, g4, g5⟩ | ⟨g1, g2⟩
        · subst g2
          go_wp2
          go_ret
          exact ⟨ret_bool HN.out.symm, rfl⟩
        · subst g2
          have e4 : decide ((b : Int) ≤ 122) = false := decide_eq_false (by omega)
          have e5 : decide ((97 : Int) ≤ (b : Int)) = true := decide_eq_true (by omega)
          go_wp2
          go_ret
          exact ⟨ret_bool HN.out.symm, rfl⟩
        · have e1 : ((k : Int) == 0) = false := beq_eq_false_iff_ne.2 (by omega)
          have e2 : ((b : Int) != 45) = true := by rw [bne_iff_ne]; omega
          have e3 : ((b : Int) != 95) = true := by rw [bne_iff_ne]; omega
          clear g2 g3 g4
          go_wp2
          go_ret
          exact ⟨ret_bool HN.out.symm, rfl⟩
        · have e1 : ((k : Int) == 0) = false := beq_eq_false_iff_ne.2 (by omega)
          have e2 : ((b : Int) != 45) = true := by rw [bne_iff_ne]; omega
          have e3 : ((b : Int) != 95) = true := by rw [bne_iff_ne]; omega
          clear g2 g3 g4
          go_wp2
          go_ret
          exact ⟨ret_bool HN.out.symm, rfl⟩
        · have e1 : ((k : Int) == 0) = false := beq_eq_false_iff_ne.2 (by omega)
          have e2 : ((b : Int) != 45) = true := by rw [bne_iff_ne]; omega
          have e3 : ((b : Int) != 95) = true := by rw [bne_iff_ne]; omega
          have e4 : decide ((b : Int) ≤ 122) = false := decide_eq_false (by omega)
          have e5 : decide ((97 : Int) ≤ (b : Int)) = true := decide_eq_true (by omega)
          have e6 : decide ((b : Int) < 48) = false := decide_eq_false (by omega)
          have e7 : decide ((57 : Int) < (b : Int)) = true := decide_eq_true (by omega)
          clear g2
          go_wp2
          go_ret
          exact ⟨ret_bool HN.out.symm, rfl⟩
    · obtain rfl : k = s.size := by omega
      have HLB : Hid (Ok.nameB s.data.toList = (decide (1 ≤ s.size) && decide (s.size ≤ 32))) := by
        show _ = _
        unfold Ok.nameB
        rw [← Lib.size_eq, HA.out]
        rfl
      by_cases g1 : 1 ≤ s.size
      · have g1' : (1 : Int) ≤ (s.size : Int) := by omega
        go_wp2
        go_ret
        exact ⟨ret_bool (by rw [HLB.out]; simp [g1]; try omega), rfl⟩
      · have g1' : ¬ (1 : Int) ≤ (s.size : Int) := by omega
        go_wp2
        go_ret
        exact ⟨ret_bool (by rw [HLB.out]; simp; try omega), rfl⟩

/-- Does the list hold the string? -/
def hasB (l : List ByteArray) (s : ByteArray) : Bool := l.any fun x => decide (x = s)
theorem hasB_iff {l : List ByteArray} {s : ByteArray} : hasB l s = true ↔ s ∈ l := by simp [hasB]
theorem hasB_false {l : List ByteArray} {s : ByteArray} (h : s ∉ l) : hasB l s = false := by
  cases hh : hasB l s with
  | false => rfl
  | true => exact absurd (hasB_iff.1 hh) h
end Go.Proofs.YtdpllfgnppeneaaGreatDoor
