/-
  MARKS AND THEIR CLASSES: the program's functions and the reference's, at every number.
-/
import Derived.Test.YtacfeabdeaikhaaDoorBase
namespace Go.Proofs.YtacfeabdeaikhaaDoor
open Go.RowKit
set_option linter.unusedVariables false
set_option linter.unusedSimpArgs false
namespace Ru
def markB (p : Int) : Bool := decide (768 ≤ p) && decide (p ≤ 879)
def inB (p lo hi : Int) : Bool := decide (lo ≤ p) && decide (p ≤ hi)
def classI (p : Int) : Int :=
  if markB p = false then 0
  else if inB p 790 793 || inB p 796 800 || inB p 803 806 || inB p 809 819 then 220
  else if inB p 801 802 || inB p 807 808 then 202
  else 230
theorem ranges (p : Int) : (p ≤ 767) ∨ (768 ≤ p ∧ p ≤ 789) ∨ (790 ≤ p ∧ p ≤ 793) ∨ (794 ≤ p ∧ p ≤ 795) ∨ (796 ≤ p ∧ p ≤ 800) ∨ (801 ≤ p ∧ p ≤ 801) ∨ (802 ≤ p ∧ p ≤ 802) ∨ (803 ≤ p ∧ p ≤ 806) ∨ (807 ≤ p ∧ p ≤ 807) ∨ (808 ≤ p ∧ p ≤ 808) ∨ (809 ≤ p ∧ p ≤ 819) ∨ (820 ≤ p ∧ p ≤ 879) ∨ (880 ≤ p) := by omega
theorem class0 (p : Int) (h : p ≤ 767) : classI p = 0 := by
  unfold classI markB inB
  simp only [Bool.or_eq_true, Bool.and_eq_true, Bool.and_eq_false_iff, decide_eq_true_eq, decide_eq_false_iff_not]
  rw [if_pos (by omega)]
theorem class1 (p : Int) (h : 768 ≤ p ∧ p ≤ 789) : classI p = 230 := by
  unfold classI markB inB
  simp only [Bool.or_eq_true, Bool.and_eq_true, Bool.and_eq_false_iff, decide_eq_true_eq, decide_eq_false_iff_not]
  rw [if_neg (by omega), if_neg (by omega), if_neg (by omega)]
theorem class2 (p : Int) (h : 790 ≤ p ∧ p ≤ 793) : classI p = 220 := by
  unfold classI markB inB
  simp only [Bool.or_eq_true, Bool.and_eq_true, Bool.and_eq_false_iff, decide_eq_true_eq, decide_eq_false_iff_not]
  rw [if_neg (by omega), if_pos (by omega)]
theorem class3 (p : Int) (h : 794 ≤ p ∧ p ≤ 795) : classI p = 230 := by
  unfold classI markB inB
  simp only [Bool.or_eq_true, Bool.and_eq_true, Bool.and_eq_false_iff, decide_eq_true_eq, decide_eq_false_iff_not]
  rw [if_neg (by omega), if_neg (by omega), if_neg (by omega)]
theorem class4 (p : Int) (h : 796 ≤ p ∧ p ≤ 800) : classI p = 220 := by
  unfold classI markB inB
  simp only [Bool.or_eq_true, Bool.and_eq_true, Bool.and_eq_false_iff, decide_eq_true_eq, decide_eq_false_iff_not]
  rw [if_neg (by omega), if_pos (by omega)]
theorem class5 (p : Int) (h : 801 ≤ p ∧ p ≤ 801) : classI p = 202 := by
  unfold classI markB inB
  simp only [Bool.or_eq_true, Bool.and_eq_true, Bool.and_eq_false_iff, decide_eq_true_eq, decide_eq_false_iff_not]
  rw [if_neg (by omega), if_neg (by omega), if_pos (by omega)]
theorem class6 (p : Int) (h : 802 ≤ p ∧ p ≤ 802) : classI p = 202 := by
  unfold classI markB inB
  simp only [Bool.or_eq_true, Bool.and_eq_true, Bool.and_eq_false_iff, decide_eq_true_eq, decide_eq_false_iff_not]
  rw [if_neg (by omega), if_neg (by omega), if_pos (by omega)]
theorem class7 (p : Int) (h : 803 ≤ p ∧ p ≤ 806) : classI p = 220 := by
  unfold classI markB inB
  simp only [Bool.or_eq_true, Bool.and_eq_true, Bool.and_eq_false_iff, decide_eq_true_eq, decide_eq_false_iff_not]
  rw [if_neg (by omega), if_pos (by omega)]
theorem class8 (p : Int) (h : 807 ≤ p ∧ p ≤ 807) : classI p = 202 := by
  unfold classI markB inB
  simp only [Bool.or_eq_true, Bool.and_eq_true, Bool.and_eq_false_iff, decide_eq_true_eq, decide_eq_false_iff_not]
  rw [if_neg (by omega), if_neg (by omega), if_pos (by omega)]
theorem class9 (p : Int) (h : 808 ≤ p ∧ p ≤ 808) : classI p = 202 := by
  unfold classI markB inB
  simp only [Bool.or_eq_true, Bool.and_eq_true, Bool.and_eq_false_iff, decide_eq_true_eq, decide_eq_false_iff_not]
  rw [if_neg (by omega), if_neg (by omega), if_pos (by omega)]
theorem class10 (p : Int) (h : 809 ≤ p ∧ p ≤ 819) : classI p = 220 := by
  unfold classI markB inB
  simp only [Bool.or_eq_true, Bool.and_eq_true, Bool.and_eq_false_iff, decide_eq_true_eq, decide_eq_false_iff_not]
  rw [if_neg (by omega), if_pos (by omega)]
theorem class11 (p : Int) (h : 820 ≤ p ∧ p ≤ 879) : classI p = 230 := by
  unfold classI markB inB
  simp only [Bool.or_eq_true, Bool.and_eq_true, Bool.and_eq_false_iff, decide_eq_true_eq, decide_eq_false_iff_not]
  rw [if_neg (by omega), if_neg (by omega), if_neg (by omega)]
theorem class12 (p : Int) (h : 880 ≤ p) : classI p = 0 := by
  unfold classI markB inB
  simp only [Bool.or_eq_true, Bool.and_eq_true, Bool.and_eq_false_iff, decide_eq_true_eq, decide_eq_false_iff_not]
  rw [if_pos (by omega)]
end Ru
set_option maxHeartbeats 400000 in
theorem mark_any (p : Int) (w : World) : Calls Tryd.prog 45 #[.int .i64 p] w fun e w' => e = .returned (.bool (Ru.markB p)) ∧ w = w' := by
  by_cases h1 : 768 ≤ p
  · have d1 : decide (768 ≤ p) = true := decide_eq_true h1
    by_cases h2 : p ≤ 879
    · have d2 : decide (p ≤ 879) = true := decide_eq_true h2
      go_enter Tryd.func45, Tryd.ntmps45
      go_wp2
      go_ret
      exact ⟨ret_bool (by simp [Ru.markB, h1, h2]), rfl⟩
    · have d2 : decide (p ≤ 879) = false := decide_eq_false h2
      go_enter Tryd.func45, Tryd.ntmps45
      go_wp2
      go_ret
      exact ⟨ret_bool (by simp [Ru.markB, h1, h2]), rfl⟩
  · have d1 : decide (768 ≤ p) = false := decide_eq_false h1
    go_enter Tryd.func45, Tryd.ntmps45
    go_wp2
    go_ret
    exact ⟨ret_bool (by unfold Ru.markB; rw [d1]; rfl), rfl⟩
set_option maxHeartbeats 400000 in
theorem refMark_any (p : Int) (w : World) : Calls Tryd.prog 41 #[.int .i64 p] w fun e w' => e = .returned (.bool (Ru.markB p)) ∧ w = w' := by
  by_cases h1 : 768 ≤ p
  · have d1 : decide (768 ≤ p) = true := decide_eq_true h1
    by_cases h2 : p ≤ 879
    · have d2 : decide (p ≤ 879) = true := decide_eq_true h2
      go_enter Tryd.func41, Tryd.ntmps41
      go_wp2
      go_ret
      exact ⟨ret_bool (by simp [Ru.markB, h1, h2]), rfl⟩
    · have d2 : decide (p ≤ 879) = false := decide_eq_false h2
      go_enter Tryd.func41, Tryd.ntmps41
      go_wp2
      go_ret
      exact ⟨ret_bool (by simp [Ru.markB, h1, h2]), rfl⟩
  · have d1 : decide (768 ≤ p) = false := decide_eq_false h1
    go_enter Tryd.func41, Tryd.ntmps41
    go_wp2
    go_ret
    exact ⟨ret_bool (by unfold Ru.markB; rw [d1]; rfl), rfl⟩
theorem class_range (p : Int) : 0 ≤ Ru.classI p ∧ Ru.classI p ≤ 230 := by
  unfold Ru.classI
  repeat' split
  all_goals omega
theorem class_zero (p : Int) : Ru.classI p = 0 ↔ Ru.markB p = false := by
  unfold Ru.classI
  repeat' split
  all_goals simp_all
end Go.Proofs.YtacfeabdeaikhaaDoor
