/-
  MARKS AND THEIR CLASSES: the program's functions and the reference's, at every number.
-/
import Derived.Test.YtplchlkdijjamaaDoorBase
namespace Go.Proofs.YtplchlkdijjamaaDoor
open Go.RowKit
set_option linter.unusedVariables false
set_option linter.unusedSimpArgs false
namespace Ru
def markB (p : Int) : Bool := decide (768 ≤ p) && decide (p ≤ 879)
def inB (p lo hi : Int) : Bool := decide (lo ≤ p) && decide (p ≤ hi)
def classI (p : Int) : Int :=
  if markB p = false then 0
  else if inB p 790 793 || inB p 796 800 || inB p 803 806 || inB p 809 819 then 220
  else if inB p 801 802 || inB p 807 808 then 202
  else 230
theorem ranges (p : Int) : (p ≤ 767) ∨ (768 ≤ p ∧ p ≤ 789) ∨ (790 ≤ p ∧ p ≤ 793) ∨ (794 ≤ p ∧ p ≤ 795) ∨ (796 ≤ p ∧ p ≤ 800) ∨ (801 ≤ p ∧ p ≤ 801) ∨ (802 ≤ p ∧ p ≤ 802) ∨ (803 ≤ p ∧ p ≤ 806) ∨ (807 ≤ p ∧ p ≤ 807) ∨ (808 ≤ p ∧ p ≤ 808) ∨ (809 ≤ p ∧ p ≤ 819) ∨ (820 ≤ p ∧ p ≤ 879) ∨ (880 ≤ p) := by omega
theorem class0 (p : Int) (h : p ≤ 767) : classI p = 0 := by
  unfold classI markB inB
  simp only [Bool.or_eq_true, Bool.and_eq_true, Bool.and_eq_false_iff, decide_eq_true_eq, decide_eq_false_iff_not]
  rw [if_pos (by omega)]
theorem class1 (p : Int) (h : 768 ≤ p ∧ p ≤ 789) : classI p = 230 := by
  unfold classI markB inB
  simp only [Bool.or_eq_true, Bool.and_eq_true, Bool.and_eq_false_iff, decide_eq_true_eq, decide_eq_false_iff_not]
  rw [if_neg (by omega), if_neg (by omega), if_neg (by omega)]
theorem class2 (p : Int) (h : 790 ≤ p ∧ p ≤ 793) : classI p = 220 := by
  unfold classI markB inB
  simp only [Bool.or_eq_true, Bool.and_eq_true, Bool.and_eq_false_iff, decide_eq_true_eq, decide_eq_false_iff_not]
  rw [if_neg (by omega), if_pos (by omega)]
theorem class3 (p : Int) (h : 794 ≤ p ∧ p ≤ 795) : classI p = 230 := by
  unfold classI markB inB
  simp only [Bool.or_eq_true, Bool.and_eq_true, Bool.and_eq_false_iff, decide_eq_true_eq, decide_eq_false_iff_not]
  rw [if_neg (by omega), if_neg (by omega), if_neg (by omega)]
theorem class4 (p : Int) (h : 796 ≤ p ∧ p ≤ 800) : classI p = 220 := by
  unfold classI markB inB
  simp only [Bool.or_eq_true, Bool.and_eq_true, Bool.and_eq_false_iff, decide_eq_true_eq, decide_eq_false_iff_not]
  rw [if_neg (by omega), if_pos (by omega)]
theorem class5 (p : Int) (h : 801 ≤ p ∧ p ≤ 801) : classI p = 202 := by
  unfold classI markB inB
  simp only [Bool.or_eq_true, Bool.and_eq_true, Bool.and_eq_false_iff, decide_eq_true_eq, decide_eq_false_iff_not]
  rw [if_neg (by omega), if_neg (by omega), if_pos (by omega)]
theorem class6 (p : Int) (h : 802 ≤ p ∧ p ≤ 802) : classI p = 202 := by
  unfold classI markB inB
  simp only [Bool.or_eq_true, Bool.and_eq_true, Bool.and_eq_false_iff, decide_eq_true_eq, decide_eq_false_iff_not]
  rw [if_neg (by omega), if_neg (by omega), if_pos (by omega)]
theorem class7 (p : Int) (h : 803 ≤ p ∧ p ≤ 806) : classI p = 220 := by
  unfold classI markB inB
  simp only [Bool.or_eq_true, Bool.and_eq_true, Bool.and_eq_false_iff, decide_eq_true_eq, decide_eq_false_iff_not]
  rw [if_neg (by omega), if_pos (by omega)]
theorem class8 (p : Int) (h : 807 ≤ p ∧ p ≤ 807) : classI p = 202 := by
  unfold classI markB inB
  simp only [Bool.or_eq_true, Bool.and_eq_true, Bool.and_eq_false_iff, decide_eq_true_eq, decide_eq_false_iff_not]
  rw [if_neg (by omega), if_neg (by omega), if_pos (by omega)]
theorem class9 (p : Int) (h : 808 ≤ p ∧ p ≤ 808) : classI p = 202 := by
  unfold classI markB inB
  simp only [Bool.or_eq_true, Bool.and_eq_true, Bool.and_eq_false_iff, decide_eq_true_eq, decide_eq_false_iff_not]
  rw [if_neg (by omega), if_neg (by omega), if_pos (by omega)]
theorem class10 (p : Int) (h : 809 ≤ p ∧ p ≤ 819) : classI p = 220 := by
  unfold classI markB inB
  simp only [Bool.or_eq_true, Bool.and_eq_true, Bool.and_eq_false_iff, decide_eq_true_eq, decide_eq_false_iff_not]
  rw [if_neg (by omega), if_pos (by omega)]
theorem class11 (p : Int) (h : 820 ≤ p ∧ p ≤ 879) : classI p = 230 := by
  unfold classI markB inB
  simp only [Bool.or_eq_true, Bool.and_eq_true, Bool.and_eq_false_iff, decide_eq_true_eq, decide_eq_false_iff_not]
  rw [if_neg (by omega), if_neg (by omega), if_neg (by omega)]
theorem class12 (p : Int) (h : 880 ≤ p) : classI p = 0 := by
  unfold classI markB inB
  simp only [Bool.or_eq_true, Bool.and_eq_true, Bool.and_eq_false_iff, decide_eq_true_eq, decide_eq_false_iff_not]
  rw [if_pos (by omega)]
end Ru
set_option maxHeartbeats 400000 in
theorem mark_any (p : Int) (w : World) : Calls Tryd.prog 35 #[.int .i64 p] w fun e w' => e = .returned (.bool (Ru.markB p)) ∧ w = w' := by
  by_cases h1 : 768 ≤ p
  · have d1 : decide (768 ≤ p) = true := decide_eq_true h1
    by_cases h2 : p ≤ 879
    · have d2 : decide (p ≤ 879) = true := decide_eq_true h2
      go_enter Tryd.func35, Tryd.ntmps35
      go_wp2
      go_ret
      exact ⟨ret_bool (by simp [Ru.markB, h1, h2]), rfl⟩
    · have d2 : decide (p ≤ 879) = false := decide_eq_false h2
      go_enter Tryd.func35, Tryd.ntmps35
      go_wp2
      go_ret
      exact ⟨ret_bool (by simp [Ru.markB, h1, h2]), rfl⟩
  · have d1 : decide (768 ≤ p) = false := decide_eq_false h1
    go_enter Tryd.func35, Tryd.ntmps35
    go_wp2
    go_ret
    exact ⟨ret_bool (by unfold Ru.markB; rw [d1]; rfl), rfl⟩
set_option maxHeartbeats 400000 in
theorem refMark_any (p : Int) (w : World) : Calls Tryd.prog 28 #[.int .i64 p] w fun e w' => e = .returned (.bool (Ru.markB p)) ∧ w = w' := by
  by_cases h1 : 768 ≤ p
  · have d1 : decide (768 ≤ p) = true := decide_eq_true h1
    by_cases h2 : p ≤ 879
    · have d2 : decide (p ≤ 879) = true := decide_eq_true h2
      go_enter Tryd.func28, Tryd.ntmps28
      go_wp2
      go_ret
      exact ⟨ret_bool (by simp [Ru.markB, h1, h2]), rfl⟩
    · have d2 : decide (p ≤ 879) = false := decide_eq_false h2
      go_enter Tryd.func28, Tryd.ntmps28
      go_wp2
      go_ret
      exact ⟨ret_bool (by simp [Ru.markB, h1, h2]), rfl⟩
  · have d1 : decide (768 ≤ p) = false := decide_eq_false h1
    go_enter Tryd.func28, Tryd.ntmps28
    go_wp2
    go_ret
    exact ⟨ret_bool (by unfold Ru.markB; rw [d1]; rfl), rfl⟩
set_option maxHeartbeats 400000 in
theorem in_any (p lo hi : Int) (w : World) : Calls Tryd.prog 36 #[.int .i64 p, .int .i64 lo, .int .i64 hi] w fun e w' => e = .returned (.bool (Ru.inB p lo hi)) ∧ w = w' := by
  by_cases h1 : lo ≤ p
  · have d1 : decide (lo ≤ p) = true := decide_eq_true h1
    by_cases h2 : p ≤ hi
    · have d2 : decide (p ≤ hi) = true := decide_eq_true h2
      go_enter Tryd.func36, Tryd.ntmps36
      go_wp2
      go_ret
      exact ⟨ret_bool (by simp [Ru.inB, h1, h2]), rfl⟩
    · have d2 : decide (p ≤ hi) = false := decide_eq_false h2
      go_enter Tryd.func36, Tryd.ntmps36
      go_wp2
      go_ret
      exact ⟨ret_bool (by simp [Ru.inB, h1, h2]), rfl⟩
  · have d1 : decide (lo ≤ p) = false := decide_eq_false h1
    go_enter Tryd.func36, Tryd.ntmps36
    go_wp2
    go_ret
    exact ⟨ret_bool (by unfold Ru.inB; rw [d1]; rfl), rfl⟩
set_option maxHeartbeats 1000000 in
theorem class_0 (p : Int) (w : World) (h : p ≤ 767) : Calls Tryd.prog 19 #[.int .i64 p] w fun e w' => e = .returned (.int .i64 0) ∧ w = w' := by
  have HM : Hid (Calls Tryd.prog 35 #[.int .i64 p] w fun e w' => e = .returned (.bool false) ∧ w = w') := mono_eq (mark_any p w) (by unfold Ru.markB; congr 1; rw [Bool.eq_iff_iff]; simp; omega)
  have g768 : decide ((768 : Int) ≤ p) = false := decide_eq_false (by omega)
  have l768 : decide (p ≤ (768 : Int)) = true := decide_eq_true (by omega)
  have g790 : decide ((790 : Int) ≤ p) = false := decide_eq_false (by omega)
  have l790 : decide (p ≤ (790 : Int)) = true := decide_eq_true (by omega)
  have g793 : decide ((793 : Int) ≤ p) = false := decide_eq_false (by omega)
  have l793 : decide (p ≤ (793 : Int)) = true := decide_eq_true (by omega)
  have g796 : decide ((796 : Int) ≤ p) = false := decide_eq_false (by omega)
  have l796 : decide (p ≤ (796 : Int)) = true := decide_eq_true (by omega)
  have g800 : decide ((800 : Int) ≤ p) = false := decide_eq_false (by omega)
  have l800 : decide (p ≤ (800 : Int)) = true := decide_eq_true (by omega)
  have g801 : decide ((801 : Int) ≤ p) = false := decide_eq_false (by omega)
  have l801 : decide (p ≤ (801 : Int)) = true := decide_eq_true (by omega)
  have g802 : decide ((802 : Int) ≤ p) = false := decide_eq_false (by omega)
  have l802 : decide (p ≤ (802 : Int)) = true := decide_eq_true (by omega)
  have g803 : decide ((803 : Int) ≤ p) = false := decide_eq_false (by omega)
  have l803 : decide (p ≤ (803 : Int)) = true := decide_eq_true (by omega)
  have g806 : decide ((806 : Int) ≤ p) = false := decide_eq_false (by omega)
  have l806 : decide (p ≤ (806 : Int)) = true := decide_eq_true (by omega)
  have g807 : decide ((807 : Int) ≤ p) = false := decide_eq_false (by omega)
  have l807 : decide (p ≤ (807 : Int)) = true := decide_eq_true (by omega)
  have g808 : decide ((808 : Int) ≤ p) = false := decide_eq_false (by omega)
  have l808 : decide (p ≤ (808 : Int)) = true := decide_eq_true (by omega)
  have g809 : decide ((809 : Int) ≤ p) = false := decide_eq_false (by omega)
  have l809 : decide (p ≤ (809 : Int)) = true := decide_eq_true (by omega)
  have g819 : decide ((819 : Int) ≤ p) = false := decide_eq_false (by omega)
  have l819 : decide (p ≤ (819 : Int)) = true := decide_eq_true (by omega)
  have g879 : decide ((879 : Int) ≤ p) = false := decide_eq_false (by omega)
  have l879 : decide (p ≤ (879 : Int)) = true := decide_eq_true (by omega)
  have e801 : (p == (801 : Int)) = false := beq_eq_false_iff_ne.2 (by omega)
  have e802 : (p == (802 : Int)) = false := beq_eq_false_iff_ne.2 (by omega)
  have e807 : (p == (807 : Int)) = false := beq_eq_false_iff_ne.2 (by omega)
  have e808 : (p == (808 : Int)) = false := beq_eq_false_iff_ne.2 (by omega)
  go_enter Tryd.func19, Tryd.ntmps19
  go_wp2_with (go_at_call 35; refine HM.out.mono ?_; rintro e w' ⟨rfl, rfl⟩)
  go_ret
  exact ⟨rfl, rfl⟩
set_option maxHeartbeats 1000000 in
theorem refClass_0 (p : Int) (w : World) (h : p ≤ 767) : Calls Tryd.prog 20 #[.int .i64 p] w fun e w' => e = .returned (.int .i64 0) ∧ w = w' := by
  have HM : Hid (Calls Tryd.prog 28 #[.int .i64 p] w fun e w' => e = .returned (.bool false) ∧ w = w') := mono_eq (refMark_any p w) (by unfold Ru.markB; congr 1; rw [Bool.eq_iff_iff]; simp; omega)
  clear h
  go_enter Tryd.func20, Tryd.ntmps20
  go_wp2_with (first
    | (go_at_call 28; refine HM.out.mono ?_; rintro e w' ⟨rfl, rfl⟩))
  go_ret
  exact ⟨rfl, rfl⟩
set_option maxHeartbeats 1000000 in
theorem class_1 (p : Int) (w : World) (h : 768 ≤ p ∧ p ≤ 789) : Calls Tryd.prog 19 #[.int .i64 p] w fun e w' => e = .returned (.int .i64 230) ∧ w = w' := by
  have HM : Hid (Calls Tryd.prog 35 #[.int .i64 p] w fun e w' => e = .returned (.bool true) ∧ w = w') := mono_eq (mark_any p w) (by unfold Ru.markB; congr 1; rw [Bool.eq_iff_iff]; simp; omega)
  have g768 : decide ((768 : Int) ≤ p) = true := decide_eq_true (by omega)
  have g790 : decide ((790 : Int) ≤ p) = false := decide_eq_false (by omega)
  have l790 : decide (p ≤ (790 : Int)) = true := decide_eq_true (by omega)
  have g793 : decide ((793 : Int) ≤ p) = false := decide_eq_false (by omega)
  have l793 : decide (p ≤ (793 : Int)) = true := decide_eq_true (by omega)
  have g796 : decide ((796 : Int) ≤ p) = false := decide_eq_false (by omega)
  have l796 : decide (p ≤ (796 : Int)) = true := decide_eq_true (by omega)
  have g800 : decide ((800 : Int) ≤ p) = false := decide_eq_false (by omega)
  have l800 : decide (p ≤ (800 : Int)) = true := decide_eq_true (by omega)
  have g801 : decide ((801 : Int) ≤ p) = false := decide_eq_false (by omega)
  have l801 : decide (p ≤ (801 : Int)) = true := decide_eq_true (by omega)
  have g802 : decide ((802 : Int) ≤ p) = false := decide_eq_false (by omega)
  have l802 : decide (p ≤ (802 : Int)) = true := decide_eq_true (by omega)
  have g803 : decide ((803 : Int) ≤ p) = false := decide_eq_false (by omega)
  have l803 : decide (p ≤ (803 : Int)) = true := decide_eq_true (by omega)
  have g806 : decide ((806 : Int) ≤ p) = false := decide_eq_false (by omega)
  have l806 : decide (p ≤ (806 : Int)) = true := decide_eq_true (by omega)
  have g807 : decide ((807 : Int) ≤ p) = false := decide_eq_false (by omega)
  have l807 : decide (p ≤ (807 : Int)) = true := decide_eq_true (by omega)
  have g808 : decide ((808 : Int) ≤ p) = false := decide_eq_false (by omega)
  have l808 : decide (p ≤ (808 : Int)) = true := decide_eq_true (by omega)
  have g809 : decide ((809 : Int) ≤ p) = false := decide_eq_false (by omega)
  have l809 : decide (p ≤ (809 : Int)) = true := decide_eq_true (by omega)
  have g819 : decide ((819 : Int) ≤ p) = false := decide_eq_false (by omega)
  have l819 : decide (p ≤ (819 : Int)) = true := decide_eq_true (by omega)
  have g879 : decide ((879 : Int) ≤ p) = false := decide_eq_false (by omega)
  have l879 : decide (p ≤ (879 : Int)) = true := decide_eq_true (by omega)
  have e801 : (p == (801 : Int)) = false := beq_eq_false_iff_ne.2 (by omega)
  have e802 : (p == (802 : Int)) = false := beq_eq_false_iff_ne.2 (by omega)
  have e807 : (p == (807 : Int)) = false := beq_eq_false_iff_ne.2 (by omega)
  have e808 : (p == (808 : Int)) = false := beq_eq_false_iff_ne.2 (by omega)
  go_enter Tryd.func19, Tryd.ntmps19
  go_wp2_with (go_at_call 35; refine HM.out.mono ?_; rintro e w' ⟨rfl, rfl⟩)
  go_ret
  exact ⟨rfl, rfl⟩
set_option maxHeartbeats 1000000 in
theorem refClass_1 (p : Int) (w : World) (h : 768 ≤ p ∧ p ≤ 789) : Calls Tryd.prog 20 #[.int .i64 p] w fun e w' => e = .returned (.int .i64 230) ∧ w = w' := by
  have HM : Hid (Calls Tryd.prog 28 #[.int .i64 p] w fun e w' => e = .returned (.bool true) ∧ w = w') := mono_eq (refMark_any p w) (by unfold Ru.markB; congr 1; rw [Bool.eq_iff_iff]; simp; omega)
  have I0 : Hid (Calls Tryd.prog 36 #[.int .i64 p, .int .i64 790, .int .i64 793] w fun e w' => e = .returned (.bool false) ∧ w = w') := mono_eq (in_any p 790 793 w) (by unfold Ru.inB; congr 1; rw [Bool.eq_iff_iff]; simp; omega)
  have I1 : Hid (Calls Tryd.prog 36 #[.int .i64 p, .int .i64 796, .int .i64 800] w fun e w' => e = .returned (.bool false) ∧ w = w') := mono_eq (in_any p 796 800 w) (by unfold Ru.inB; congr 1; rw [Bool.eq_iff_iff]; simp; omega)
  have I2 : Hid (Calls Tryd.prog 36 #[.int .i64 p, .int .i64 803, .int .i64 806] w fun e w' => e = .returned (.bool false) ∧ w = w') := mono_eq (in_any p 803 806 w) (by unfold Ru.inB; congr 1; rw [Bool.eq_iff_iff]; simp; omega)
  have I3 : Hid (Calls Tryd.prog 36 #[.int .i64 p, .int .i64 809, .int .i64 819] w fun e w' => e = .returned (.bool false) ∧ w = w') := mono_eq (in_any p 809 819 w) (by unfold Ru.inB; congr 1; rw [Bool.eq_iff_iff]; simp; omega)
  have I4 : Hid (Calls Tryd.prog 36 #[.int .i64 p, .int .i64 801, .int .i64 802] w fun e w' => e = .returned (.bool false) ∧ w = w') := mono_eq (in_any p 801 802 w) (by unfold Ru.inB; congr 1; rw [Bool.eq_iff_iff]; simp; omega)
  have I5 : Hid (Calls Tryd.prog 36 #[.int .i64 p, .int .i64 807, .int .i64 808] w fun e w' => e = .returned (.bool false) ∧ w = w') := mono_eq (in_any p 807 808 w) (by unfold Ru.inB; congr 1; rw [Bool.eq_iff_iff]; simp; omega)
  clear h
  go_enter Tryd.func20, Tryd.ntmps20
  go_wp2_with (first
    | (go_at_call 28; refine HM.out.mono ?_; rintro e w' ⟨rfl, rfl⟩)
    | (go_at_call 36; ((with_reducible refine I0.out.mono ?_); rintro e w' ⟨rfl, rfl⟩))
    | (go_at_call 36; ((with_reducible refine I1.out.mono ?_); rintro e w' ⟨rfl, rfl⟩))
    | (go_at_call 36; ((with_reducible refine I2.out.mono ?_); rintro e w' ⟨rfl, rfl⟩))
    | (go_at_call 36; ((with_reducible refine I3.out.mono ?_); rintro e w' ⟨rfl, rfl⟩))
    | (go_at_call 36; ((with_reducible refine I4.out.mono ?_); rintro e w' ⟨rfl, rfl⟩))
    | (go_at_call 36; ((with_reducible refine I5.out.mono ?_); rintro e w' ⟨rfl, rfl⟩)))
  go_ret
  exact ⟨rfl, rfl⟩
set_option maxHeartbeats 1000000 in
theorem class_2 (p : Int) (w : World) (h : 790 ≤ p ∧ p ≤ 793) : Calls Tryd.prog 19 #[.int .i64 p] w fun e w' => e = .returned (.int .i64 220) ∧ w = w' := by
  have HM : Hid (Calls Tryd.prog 35 #[.int .i64 p] w fun e w' => e = .returned (.bool true) ∧ w = w') := mono_eq (mark_any p w) (by unfold Ru.markB; congr 1; rw [Bool.eq_iff_iff]; simp; omega)
  have g768 : decide ((768 : Int) ≤ p) = true := decide_eq_true (by omega)
  have l768 : decide (p ≤ (768 : Int)) = false := decide_eq_false (by omega)
  have g790 : decide ((790 : Int) ≤ p) = true := decide_eq_true (by omega)
  have l793 : decide (p ≤ (793 : Int)) = true := decide_eq_true (by omega)
  have g796 : decide ((796 : Int) ≤ p) = false := decide_eq_false (by omega)
  have l796 : decide (p ≤ (796 : Int)) = true := decide_eq_true (by omega)
  have g800 : decide ((800 : Int) ≤ p) = false := decide_eq_false (by omega)
  have l800 : decide (p ≤ (800 : Int)) = true := decide_eq_true (by omega)
  have g801 : decide ((801 : Int) ≤ p) = false := decide_eq_false (by omega)
  have l801 : decide (p ≤ (801 : Int)) = true := decide_eq_true (by omega)
  have g802 : decide ((802 : Int) ≤ p) = false := decide_eq_false (by omega)
  have l802 : decide (p ≤ (802 : Int)) = true := decide_eq_true (by omega)
  have g803 : decide ((803 : Int) ≤ p) = false := decide_eq_false (by omega)
  have l803 : decide (p ≤ (803 : Int)) = true := decide_eq_true (by omega)
  have g806 : decide ((806 : Int) ≤ p) = false := decide_eq_false (by omega)
  have l806 : decide (p ≤ (806 : Int)) = true := decide_eq_true (by omega)
  have g807 : decide ((807 : Int) ≤ p) = false := decide_eq_false (by omega)
  have l807 : decide (p ≤ (807 : Int)) = true := decide_eq_true (by omega)
  have g808 : decide ((808 : Int) ≤ p) = false := decide_eq_false (by omega)
  have l808 : decide (p ≤ (808 : Int)) = true := decide_eq_true (by omega)
  have g809 : decide ((809 : Int) ≤ p) = false := decide_eq_false (by omega)
  have l809 : decide (p ≤ (809 : Int)) = true := decide_eq_true (by omega)
  have g819 : decide ((819 : Int) ≤ p) = false := decide_eq_false (by omega)
  have l819 : decide (p ≤ (819 : Int)) = true := decide_eq_true (by omega)
  have g879 : decide ((879 : Int) ≤ p) = false := decide_eq_false (by omega)
  have l879 : decide (p ≤ (879 : Int)) = true := decide_eq_true (by omega)
  have e801 : (p == (801 : Int)) = false := beq_eq_false_iff_ne.2 (by omega)
  have e802 : (p == (802 : Int)) = false := beq_eq_false_iff_ne.2 (by omega)
  have e807 : (p == (807 : Int)) = false := beq_eq_false_iff_ne.2 (by omega)
  have e808 : (p == (808 : Int)) = false := beq_eq_false_iff_ne.2 (by omega)
  go_enter Tryd.func19, Tryd.ntmps19
  go_wp2_with (go_at_call 35; refine HM.out.mono ?_; rintro e w' ⟨rfl, rfl⟩)
  go_ret
  exact ⟨rfl, rfl⟩
set_option maxHeartbeats 1000000 in
theorem refClass_2 (p : Int) (w : World) (h : 790 ≤ p ∧ p ≤ 793) : Calls Tryd.prog 20 #[.int .i64 p] w fun e w' => e = .returned (.int .i64 220) ∧ w = w' := by
  have HM : Hid (Calls Tryd.prog 28 #[.int .i64 p] w fun e w' => e = .returned (.bool true) ∧ w = w') := mono_eq (refMark_any p w) (by unfold Ru.markB; congr 1; rw [Bool.eq_iff_iff]; simp; omega)
  have I0 : Hid (Calls Tryd.prog 36 #[.int .i64 p, .int .i64 790, .int .i64 793] w fun e w' => e = .returned (.bool true) ∧ w = w') := mono_eq (in_any p 790 793 w) (by unfold Ru.inB; congr 1; rw [Bool.eq_iff_iff]; simp; omega)
  have I1 : Hid (Calls Tryd.prog 36 #[.int .i64 p, .int .i64 796, .int .i64 800] w fun e w' => e = .returned (.bool false) ∧ w = w') := mono_eq (in_any p 796 800 w) (by unfold Ru.inB; congr 1; rw [Bool.eq_iff_iff]; simp; omega)
  have I2 : Hid (Calls Tryd.prog 36 #[.int .i64 p, .int .i64 803, .int .i64 806] w fun e w' => e = .returned (.bool false) ∧ w = w') := mono_eq (in_any p 803 806 w) (by unfold Ru.inB; congr 1; rw [Bool.eq_iff_iff]; simp; omega)
  have I3 : Hid (Calls Tryd.prog 36 #[.int .i64 p, .int .i64 809, .int .i64 819] w fun e w' => e = .returned (.bool false) ∧ w = w') := mono_eq (in_any p 809 819 w) (by unfold Ru.inB; congr 1; rw [Bool.eq_iff_iff]; simp; omega)
  have I4 : Hid (Calls Tryd.prog 36 #[.int .i64 p, .int .i64 801, .int .i64 802] w fun e w' => e = .returned (.bool false) ∧ w = w') := mono_eq (in_any p 801 802 w) (by unfold Ru.inB; congr 1; rw [Bool.eq_iff_iff]; simp; omega)
  have I5 : Hid (Calls Tryd.prog 36 #[.int .i64 p, .int .i64 807, .int .i64 808] w fun e w' => e = .returned (.bool false) ∧ w = w') := mono_eq (in_any p 807 808 w) (by unfold Ru.inB; congr 1; rw [Bool.eq_iff_iff]; simp; omega)
  clear h
  go_enter Tryd.func20, Tryd.ntmps20
  go_wp2_with (first
    | (go_at_call 28; refine HM.out.mono ?_; rintro e w' ⟨rfl, rfl⟩)
    | (go_at_call 36; ((with_reducible refine I0.out.mono ?_); rintro e w' ⟨rfl, rfl⟩))
    | (go_at_call 36; ((with_reducible refine I1.out.mono ?_); rintro e w' ⟨rfl, rfl⟩))
    | (go_at_call 36; ((with_reducible refine I2.out.mono ?_); rintro e w' ⟨rfl, rfl⟩))
    | (go_at_call 36; ((with_reducible refine I3.out.mono ?_); rintro e w' ⟨rfl, rfl⟩))
    | (go_at_call 36; ((with_reducible refine I4.out.mono ?_); rintro e w' ⟨rfl, rfl⟩))
    | (go_at_call 36; ((with_reducible refine I5.out.mono ?_); rintro e w' ⟨rfl, rfl⟩)))
  go_ret
  exact ⟨rfl, rfl⟩
set_option maxHeartbeats 1000000 in
theorem class_3 (p : Int) (w : World) (h : 794 ≤ p ∧ p ≤ 795) : Calls Tryd.prog 19 #[.int .i64 p] w fun e w' => e = .returned (.int .i64 230) ∧ w = w' := by
  have HM : Hid (Calls Tryd.prog 35 #[.int .i64 p] w fun e w' => e = .returned (.bool true) ∧ w = w') := mono_eq (mark_any p w) (by unfold Ru.markB; congr 1; rw [Bool.eq_iff_iff]; simp; omega)
  have g768 : decide ((768 : Int) ≤ p) = true := decide_eq_true (by omega)
  have l768 : decide (p ≤ (768 : Int)) = false := decide_eq_false (by omega)
  have g790 : decide ((790 : Int) ≤ p) = true := decide_eq_true (by omega)
  have l790 : decide (p ≤ (790 : Int)) = false := decide_eq_false (by omega)
  have g793 : decide ((793 : Int) ≤ p) = true := decide_eq_true (by omega)
  have l793 : decide (p ≤ (793 : Int)) = false := decide_eq_false (by omega)
  have g796 : decide ((796 : Int) ≤ p) = false := decide_eq_false (by omega)
  have l796 : decide (p ≤ (796 : Int)) = true := decide_eq_true (by omega)
  have g800 : decide ((800 : Int) ≤ p) = false := decide_eq_false (by omega)
  have l800 : decide (p ≤ (800 : Int)) = true := decide_eq_true (by omega)
  have g801 : decide ((801 : Int) ≤ p) = false := decide_eq_false (by omega)
  have l801 : decide (p ≤ (801 : Int)) = true := decide_eq_true (by omega)
  have g802 : decide ((802 : Int) ≤ p) = false := decide_eq_false (by omega)
  have l802 : decide (p ≤ (802 : Int)) = true := decide_eq_true (by omega)
  have g803 : decide ((803 : Int) ≤ p) = false := decide_eq_false (by omega)
  have l803 : decide (p ≤ (803 : Int)) = true := decide_eq_true (by omega)
  have g806 : decide ((806 : Int) ≤ p) = false := decide_eq_false (by omega)
  have l806 : decide (p ≤ (806 : Int)) = true := decide_eq_true (by omega)
  have g807 : decide ((807 : Int) ≤ p) = false := decide_eq_false (by omega)
  have l807 : decide (p ≤ (807 : Int)) = true := decide_eq_true (by omega)
  have g808 : decide ((808 : Int) ≤ p) = false := decide_eq_false (by omega)
  have l808 : decide (p ≤ (808 : Int)) = true := decide_eq_true (by omega)
  have g809 : decide ((809 : Int) ≤ p) = false := decide_eq_false (by omega)
  have l809 : decide (p ≤ (809 : Int)) = true := decide_eq_true (by omega)
  have g819 : decide ((819 : Int) ≤ p) = false := decide_eq_false (by omega)
  have l819 : decide (p ≤ (819 : Int)) = true := decide_eq_true (by omega)
  have g879 : decide ((879 : Int) ≤ p) = false := decide_eq_false (by omega)
  have l879 : decide (p ≤ (879 : Int)) = true := decide_eq_true (by omega)
  have e801 : (p == (801 : Int)) = false := beq_eq_false_iff_ne.2 (by omega)
  have e802 : (p == (802 : Int)) = false := beq_eq_false_iff_ne.2 (by omega)
  have e807 : (p == (807 : Int)) = false := beq_eq_false_iff_ne.2 (by omega)
  have e808 : (p == (808 : Int)) = false := beq_eq_false_iff_ne.2 (by omega)
  go_enter Tryd.func19, Tryd.ntmps19
  go_wp2_with (go_at_call 35; refine HM.out.mono ?_; rintro e w' ⟨rfl, rfl⟩)
  go_ret
  exact ⟨rfl, rfl⟩
set_option maxHeartbeats 1000000 in
theorem refClass_3 (p : Int) (w : World) (h : 794 ≤ p ∧ p ≤ 795) : Calls Tryd.prog 20 #[.int .i64 p] w fun e w' => e = .returned (.int .i64 230) ∧ w = w' := by
  have HM : Hid (Calls Tryd.prog 28 #[.int .i64 p] w fun e w' => e = .returned (.bool true) ∧ w = w') := mono_eq (refMark_any p w) (by unfold Ru.markB; congr 1; rw [Bool.eq_iff_iff]; simp; omega)
  have I0 : Hid (Calls Tryd.prog 36 #[.int .i64 p, .int .i64 790, .int .i64 793] w fun e w' => e = .returned (.bool false) ∧ w = w') := mono_eq (in_any p 790 793 w) (by unfold Ru.inB; congr 1; rw [Bool.eq_iff_iff]; simp; omega)
  have I1 : Hid (Calls Tryd.prog 36 #[.int .i64 p, .int .i64 796, .int .i64 800] w fun e w' => e = .returned (.bool false) ∧ w = w') := mono_eq (in_any p 796 800 w) (by unfold Ru.inB; congr 1; rw [Bool.eq_iff_iff]; simp; omega)
  have I2 : Hid (Calls Tryd.prog 36 #[.int .i64 p, .int .i64 803, .int .i64 806] w fun e w' => e = .returned (.bool false) ∧ w = w') := mono_eq (in_any p 803 806 w) (by unfold Ru.inB; congr 1; rw [Bool.eq_iff_iff]; simp; omega)
  have I3 : Hid (Calls Tryd.prog 36 #[.int .i64 p, .int .i64 809, .int .i64 819] w fun e w' => e = .returned (.bool false) ∧ w = w') := mono_eq (in_any p 809 819 w) (by unfold Ru.inB; congr 1; rw [Bool.eq_iff_iff]; simp; omega)
  have I4 : Hid (Calls Tryd.prog 36 #[.int .i64 p, .int .i64 801, .int .i64 802] w fun e w' => e = .returned (.bool false) ∧ w = w') := mono_eq (in_any p 801 802 w) (by unfold Ru.inB; congr 1; rw [Bool.eq_iff_iff]; simp; omega)
  have I5 : Hid (Calls Tryd.prog 36 #[.int .i64 p, .int .i64 807, .int .i64 808] w fun e w' => e = .returned (.bool false) ∧ w = w') := mono_eq (in_any p 807 808 w) (by unfold Ru.inB; congr 1; rw [Bool.eq_iff_iff]; simp; omega)
  clear h
  go_enter Tryd.func20, Tryd.ntmps20
  go_wp2_with (first
    | (go_at_call 28; refine HM.out.mono ?_; rintro e w' ⟨rfl, rfl⟩)
    | (go_at_call 36; ((with_reducible refine I0.out.mono ?_); rintro e w' ⟨rfl, rfl⟩))
    | (go_at_call 36; ((with_reducible refine I1.out.mono ?_); rintro e w' ⟨rfl, rfl⟩))
    | (go_at_call 36; ((with_reducible refine I2.out.mono ?_); rintro e w' ⟨rfl, rfl⟩))
    | (go_at_call 36; ((with_reducible refine I3.out.mono ?_); rintro e w' ⟨rfl, rfl⟩))
    | (go_at_call 36; ((with_reducible refine I4.out.mono ?_); rintro e w' ⟨rfl, rfl⟩))
    | (go_at_call 36; ((with_reducible refine I5.out.mono ?_); rintro e w' ⟨rfl, rfl⟩)))
  go_ret
  exact ⟨rfl, rfl⟩
set_option maxHeartbeats 1000000 in
theorem class_4 (p : Int) (w : World) (h : 796 ≤ p ∧ p ≤ 800) : Calls Tryd.prog 19 #[.int .i64 p] w fun e w' => e = .returned (.int .i64 220) ∧ w = w' := by
  have HM : Hid (Calls Tryd.prog 35 #[.int .i64 p] w fun e w' => e = .returned (.bool true) ∧ w = w') := mono_eq (mark_any p w) (by unfold Ru.markB; congr 1; rw [Bool.eq_iff_iff]; simp; omega)
  have g768 : decide ((768 : Int) ≤ p) = true := decide_eq_true (by omega)
  have l768 : decide (p ≤ (768 : Int)) = false := decide_eq_false (by omega)
  have g790 : decide ((790 : Int) ≤ p) = true := decide_eq_true (by omega)
  have l790 : decide (p ≤ (790 : Int)) = false := decide_eq_false (by omega)
  have g793 : decide ((793 : Int) ≤ p) = true := decide_eq_true (by omega)
  have l793 : decide (p ≤ (793 : Int)) = false := decide_eq_false (by omega)
  have g796 : decide ((796 : Int) ≤ p) = true := decide_eq_true (by omega)
  have l800 : decide (p ≤ (800 : Int)) = true := decide_eq_true (by omega)
  have g801 : decide ((801 : Int) ≤ p) = false := decide_eq_false (by omega)
  have l801 : decide (p ≤ (801 : Int)) = true := decide_eq_true (by omega)
  have g802 : decide ((802 : Int) ≤ p) = false := decide_eq_false (by omega)
  have l802 : decide (p ≤ (802 : Int)) = true := decide_eq_true (by omega)
  have g803 : decide ((803 : Int) ≤ p) = false := decide_eq_false (by omega)
  have l803 : decide (p ≤ (803 : Int)) = true := decide_eq_true (by omega)
  have g806 : decide ((806 : Int) ≤ p) = false := decide_eq_false (by omega)
  have l806 : decide (p ≤ (806 : Int)) = true := decide_eq_true (by omega)
  have g807 : decide ((807 : Int) ≤ p) = false := decide_eq_false (by omega)
  have l807 : decide (p ≤ (807 : Int)) = true := decide_eq_true (by omega)
  have g808 : decide ((808 : Int) ≤ p) = false := decide_eq_false (by omega)
  have l808 : decide (p ≤ (808 : Int)) = true := decide_eq_true (by omega)
  have g809 : decide ((809 : Int) ≤ p) = false := decide_eq_false (by omega)
  have l809 : decide (p ≤ (809 : Int)) = true := decide_eq_true (by omega)
  have g819 : decide ((819 : Int) ≤ p) = false := decide_eq_false (by omega)
  have l819 : decide (p ≤ (819 : Int)) = true := decide_eq_true (by omega)
  have g879 : decide ((879 : Int) ≤ p) = false := decide_eq_false (by omega)
  have l879 : decide (p ≤ (879 : Int)) = true := decide_eq_true (by omega)
  have e801 : (p == (801 : Int)) = false := beq_eq_false_iff_ne.2 (by omega)
  have e802 : (p == (802 : Int)) = false := beq_eq_false_iff_ne.2 (by omega)
  have e807 : (p == (807 : Int)) = false := beq_eq_false_iff_ne.2 (by omega)
  have e808 : (p == (808 : Int)) = false := beq_eq_false_iff_ne.2 (by omega)
  go_enter Tryd.func19, Tryd.ntmps19
  go_wp2_with (go_at_call 35; refine HM.out.mono ?_; rintro e w' ⟨rfl, rfl⟩)
  go_ret
  exact ⟨rfl, rfl⟩
set_option maxHeartbeats 1000000 in
theorem refClass_4 (p : Int) (w : World) (h : 796 ≤ p ∧ p ≤ 800) : Calls Tryd.prog 20 #[.int .i64 p] w fun e w' => e = .returned (.int .i64 220) ∧ w = w' := by
  have HM : Hid (Calls Tryd.prog 28 #[.int .i64 p] w fun e w' => e = .returned (.bool true) ∧ w = w') := mono_eq (refMark_any p w) (by unfold Ru.markB; congr 1; rw [Bool.eq_iff_iff]; simp; omega)
  have I0 : Hid (Calls Tryd.prog 36 #[.int .i64 p, .int .i64 790, .int .i64 793] w fun e w' => e = .returned (.bool false) ∧ w = w') := mono_eq (in_any p 790 793 w) (by unfold Ru.inB; congr 1; rw [Bool.eq_iff_iff]; simp; omega)
  have I1 : Hid (Calls Tryd.prog 36 #[.int .i64 p, .int .i64 796, .int .i64 800] w fun e w' => e = .returned (.bool true) ∧ w = w') := mono_eq (in_any p 796 800 w) (by unfold Ru.inB; congr 1; rw [Bool.eq_iff_iff]; simp; omega)
  have I2 : Hid (Calls Tryd.prog 36 #[.int .i64 p, .int .i64 803, .int .i64 806] w fun e w' => e = .returned (.bool false) ∧ w = w') := mono_eq (in_any p 803 806 w) (by unfold Ru.inB; congr 1; rw [Bool.eq_iff_iff]; simp; omega)
  have I3 : Hid (Calls Tryd.prog 36 #[.int .i64 p, .int .i64 809, .int .i64 819] w fun e w' => e = .returned (.bool false) ∧ w = w') := mono_eq (in_any p 809 819 w) (by unfold Ru.inB; congr 1; rw [Bool.eq_iff_iff]; simp; omega)
  have I4 : Hid (Calls Tryd.prog 36 #[.int .i64 p, .int .i64 801, .int .i64 802] w fun e w' => e = .returned (.bool false) ∧ w = w') := mono_eq (in_any p 801 802 w) (by unfold Ru.inB; congr 1; rw [Bool.eq_iff_iff]; simp; omega)
  have I5 : Hid (Calls Tryd.prog 36 #[.int .i64 p, .int .i64 807, .int .i64 808] w fun e w' => e = .returned (.bool false) ∧ w = w') := mono_eq (in_any p 807 808 w) (by unfold Ru.inB; congr 1; rw [Bool.eq_iff_iff]; simp; omega)
  clear h
  go_enter Tryd.func20, Tryd.ntmps20
  go_wp2_with (first
    | (go_at_call 28; refine HM.out.mono ?_; rintro e w' ⟨rfl, rfl⟩)
    | (go_at_call 36; ((with_reducible refine I0.out.mono ?_); rintro e w' ⟨rfl, rfl⟩))
    | (go_at_call 36; ((with_reducible refine I1.out.mono ?_); rintro e w' ⟨rfl, rfl⟩))
    | (go_at_call 36; ((with_reducible refine I2.out.mono ?_); rintro e w' ⟨rfl, rfl⟩))
    | (go_at_call 36; ((with_reducible refine I3.out.mono ?_); rintro e w' ⟨rfl, rfl⟩))
    | (go_at_call 36; ((with_reducible refine I4.out.mono ?_); rintro e w' ⟨rfl, rfl⟩))
    | (go_at_call 36; ((with_reducible refine I5.out.mono ?_); rintro e w' ⟨rfl, rfl⟩)))
  go_ret
  exact ⟨rfl, rfl⟩
set_option maxHeartbeats 1000000 in
theorem class_5 (p : Int) (w : World) (h : 801 ≤ p ∧ p ≤ 801) : Calls Tryd.prog 19 #[.int .i64 p] w fun e w' => e = .returned (.int .i64 202) ∧ w = w' := by
  have HM : Hid (Calls Tryd.prog 35 #[.int .i64 p] w fun e w' => e = .returned (.bool true) ∧ w = w') := mono_eq (mark_any p w) (by unfold Ru.markB; congr 1; rw [Bool.eq_iff_iff]; simp; omega)
  have g768 : decide ((768 : Int) ≤ p) = true := decide_eq_true (by omega)
  have l768 : decide (p ≤ (768 : Int)) = false := decide_eq_false (by omega)
  have g790 : decide ((790 : Int) ≤ p) = true := decide_eq_true (by omega)
  have l790 : decide (p ≤ (790 : Int)) = false := decide_eq_false (by omega)
  have g793 : decide ((793 : Int) ≤ p) = true := decide_eq_true (by omega)
  have l793 : decide (p ≤ (793 : Int)) = false := decide_eq_false (by omega)
  have g796 : decide ((796 : Int) ≤ p) = true := decide_eq_true (by omega)
  have l796 : decide (p ≤ (796 : Int)) = false := decide_eq_false (by omega)
  have g800 : decide ((800 : Int) ≤ p) = true := decide_eq_true (by omega)
  have l800 : decide (p ≤ (800 : Int)) = false := decide_eq_false (by omega)
  have g801 : decide ((801 : Int) ≤ p) = true := decide_eq_true (by omega)
  have l801 : decide (p ≤ (801 : Int)) = true := decide_eq_true (by omega)
  have g802 : decide ((802 : Int) ≤ p) = false := decide_eq_false (by omega)
  have l802 : decide (p ≤ (802 : Int)) = true := decide_eq_true (by omega)
  have g803 : decide ((803 : Int) ≤ p) = false := decide_eq_false (by omega)
  have l803 : decide (p ≤ (803 : Int)) = true := decide_eq_true (by omega)
  have g806 : decide ((806 : Int) ≤ p) = false := decide_eq_false (by omega)
  have l806 : decide (p ≤ (806 : Int)) = true := decide_eq_true (by omega)
  have g807 : decide ((807 : Int) ≤ p) = false := decide_eq_false (by omega)
  have l807 : decide (p ≤ (807 : Int)) = true := decide_eq_true (by omega)
  have g808 : decide ((808 : Int) ≤ p) = false := decide_eq_false (by omega)
  have l808 : decide (p ≤ (808 : Int)) = true := decide_eq_true (by omega)
  have g809 : decide ((809 : Int) ≤ p) = false := decide_eq_false (by omega)
  have l809 : decide (p ≤ (809 : Int)) = true := decide_eq_true (by omega)
  have g819 : decide ((819 : Int) ≤ p) = false := decide_eq_false (by omega)
  have l819 : decide (p ≤ (819 : Int)) = true := decide_eq_true (by omega)
  have g879 : decide ((879 : Int) ≤ p) = false := decide_eq_false (by omega)
  have l879 : decide (p ≤ (879 : Int)) = true := decide_eq_true (by omega)
  have e801 : (p == (801 : Int)) = true := beq_iff_eq.2 (by omega)
  have e802 : (p == (802 : Int)) = false := beq_eq_false_iff_ne.2 (by omega)
  have e807 : (p == (807 : Int)) = false := beq_eq_false_iff_ne.2 (by omega)
  have e808 : (p == (808 : Int)) = false := beq_eq_false_iff_ne.2 (by omega)
  go_enter Tryd.func19, Tryd.ntmps19
  go_wp2_with (go_at_call 35; refine HM.out.mono ?_; rintro e w' ⟨rfl, rfl⟩)
  go_ret
  exact ⟨rfl, rfl⟩
set_option maxHeartbeats 1000000 in
theorem refClass_5 (p : Int) (w : World) (h : 801 ≤ p ∧ p ≤ 801) : Calls Tryd.prog 20 #[.int .i64 p] w fun e w' => e = .returned (.int .i64 202) ∧ w = w' := by
  have HM : Hid (Calls Tryd.prog 28 #[.int .i64 p] w fun e w' => e = .returned (.bool true) ∧ w = w') := mono_eq (refMark_any p w) (by unfold Ru.markB; congr 1; rw [Bool.eq_iff_iff]; simp; omega)
  have I0 : Hid (Calls Tryd.prog 36 #[.int .i64 p, .int .i64 790, .int .i64 793] w fun e w' => e = .returned (.bool false) ∧ w = w') := mono_eq (in_any p 790 793 w) (by unfold Ru.inB; congr 1; rw [Bool.eq_iff_iff]; simp; omega)
  have I1 : Hid (Calls Tryd.prog 36 #[.int .i64 p, .int .i64 796, .int .i64 800] w fun e w' => e = .returned (.bool false) ∧ w = w') := mono_eq (in_any p 796 800 w) (by unfold Ru.inB; congr 1; rw [Bool.eq_iff_iff]; simp; omega)
  have I2 : Hid (Calls Tryd.prog 36 #[.int .i64 p, .int .i64 803, .int .i64 806] w fun e w' => e = .returned (.bool false) ∧ w = w') := mono_eq (in_any p 803 806 w) (by unfold Ru.inB; congr 1; rw [Bool.eq_iff_iff]; simp; omega)
  have I3 : Hid (Calls Tryd.prog 36 #[.int .i64 p, .int .i64 809, .int .i64 819] w fun e w' => e = .returned (.bool false) ∧ w = w') := mono_eq (in_any p 809 819 w) (by unfold Ru.inB; congr 1; rw [Bool.eq_iff_iff]; simp; omega)
  have I4 : Hid (Calls Tryd.prog 36 #[.int .i64 p, .int .i64 801, .int .i64 802] w fun e w' => e = .returned (.bool true) ∧ w = w') := mono_eq (in_any p 801 802 w) (by unfold Ru.inB; congr 1; rw [Bool.eq_iff_iff]; simp; omega)
  have I5 : Hid (Calls Tryd.prog 36 #[.int .i64 p, .int .i64 807, .int .i64 808] w fun e w' => e = .returned (.bool false) ∧ w = w') := mono_eq (in_any p 807 808 w) (by unfold Ru.inB; congr 1; rw [Bool.eq_iff_iff]; simp; omega)
  clear h
  go_enter Tryd.func20, Tryd.ntmps20
  go_wp2_with (first
    | (go_at_call 28; refine HM.out.mono ?_; rintro e w' ⟨rfl, rfl⟩)
    | (go_at_call 36; ((with_reducible refine I0.out.mono ?_); rintro e w' ⟨rfl, rfl⟩))
    | (go_at_call 36; ((with_reducible refine I1.out.mono ?_); rintro e w' ⟨rfl, rfl⟩))
    | (go_at_call 36; ((with_reducible refine I2.out.mono ?_); rintro e w' ⟨rfl, rfl⟩))
    | (go_at_call 36; ((with_reducible refine I3.out.mono ?_); rintro e w' ⟨rfl, rfl⟩))
    | (go_at_call 36; ((with_reducible refine I4.out.mono ?_); rintro e w' ⟨rfl, rfl⟩))
    | (go_at_call 36; ((with_reducible refine I5.out.mono ?_); rintro e w' ⟨rfl, rfl⟩)))
  go_ret
  exact ⟨rfl, rfl⟩
set_option maxHeartbeats 1000000 in
theorem class_6 (p : Int) (w : World) (h : 802 ≤ p ∧ p ≤ 802) : Calls Tryd.prog 19 #[.int .i64 p] w fun e w' => e = .returned (.int .i64 202) ∧ w = w' := by
  have HM : Hid (Calls Tryd.prog 35 #[.int .i64 p] w fun e w' => e = .returned (.bool true) ∧ w = w') := mono_eq (mark_any p w) (by unfold Ru.markB; congr 1; rw [Bool.eq_iff_iff]; simp; omega)
  have g768 : decide ((768 : Int) ≤ p) = true := decide_eq_true (by omega)
  have l768 : decide (p ≤ (768 : Int)) = false := decide_eq_false (by omega)
  have g790 : decide ((790 : Int) ≤ p) = true := decide_eq_true (by omega)
  have l790 : decide (p ≤ (790 : Int)) = false := decide_eq_false (by omega)
  have g793 : decide ((793 : Int) ≤ p) = true := decide_eq_true (by omega)
  have l793 : decide (p ≤ (793 : Int)) = false := decide_eq_false (by omega)
  have g796 : decide ((796 : Int) ≤ p) = true := decide_eq_true (by omega)
  have l796 : decide (p ≤ (796 : Int)) = false := decide_eq_false (by omega)
  have g800 : decide ((800 : Int) ≤ p) = true := decide_eq_true (by omega)
  have l800 : decide (p ≤ (800 : Int)) = false := decide_eq_false (by omega)
  have g801 : decide ((801 : Int) ≤ p) = true := decide_eq_true (by omega)
  have l801 : decide (p ≤ (801 : Int)) = false := decide_eq_false (by omega)
  have g802 : decide ((802 : Int) ≤ p) = true := decide_eq_true (by omega)
  have l802 : decide (p ≤ (802 : Int)) = true := decide_eq_true (by omega)
  have g803 : decide ((803 : Int) ≤ p) = false := decide_eq_false (by omega)
  have l803 : decide (p ≤ (803 : Int)) = true := decide_eq_true (by omega)
  have g806 : decide ((806 : Int) ≤ p) = false := decide_eq_false (by omega)
  have l806 : decide (p ≤ (806 : Int)) = true := decide_eq_true (by omega)
  have g807 : decide ((807 : Int) ≤ p) = false := decide_eq_false (by omega)
  have l807 : decide (p ≤ (807 : Int)) = true := decide_eq_true (by omega)
  have g808 : decide ((808 : Int) ≤ p) = false := decide_eq_false (by omega)
  have l808 : decide (p ≤ (808 : Int)) = true := decide_eq_true (by omega)
  have g809 : decide ((809 : Int) ≤ p) = false := decide_eq_false (by omega)
  have l809 : decide (p ≤ (809 : Int)) = true := decide_eq_true (by omega)
  have g819 : decide ((819 : Int) ≤ p) = false := decide_eq_false (by omega)
  have l819 : decide (p ≤ (819 : Int)) = true := decide_eq_true (by omega)
  have g879 : decide ((879 : Int) ≤ p) = false := decide_eq_false (by omega)
  have l879 : decide (p ≤ (879 : Int)) = true := decide_eq_true (by omega)
  have e801 : (p == (801 : Int)) = false := beq_eq_false_iff_ne.2 (by omega)
  have e802 : (p == (802 : Int)) = true := beq_iff_eq.2 (by omega)
  have e807 : (p == (807 : Int)) = false := beq_eq_false_iff_ne.2 (by omega)
  have e808 : (p == (808 : Int)) = false := beq_eq_false_iff_ne.2 (by omega)
  go_enter Tryd.func19, Tryd.ntmps19
  go_wp2_with (go_at_call 35; refine HM.out.mono ?_; rintro e w' ⟨rfl, rfl⟩)
  go_ret
  exact ⟨rfl, rfl⟩
set_option maxHeartbeats 1000000 in
theorem refClass_6 (p : Int) (w : World) (h : 802 ≤ p ∧ p ≤ 802) : Calls Tryd.prog 20 #[.int .i64 p] w fun e w' => e = .returned (.int .i64 202) ∧ w = w' := by
  have HM : Hid (Calls Tryd.prog 28 #[.int .i64 p] w fun e w' => e = .returned (.bool true) ∧ w = w') := mono_eq (refMark_any p w) (by unfold Ru.markB; congr 1; rw [Bool.eq_iff_iff]; simp; omega)
  have I0 : Hid (Calls Tryd.prog 36 #[.int .i64 p, .int .i64 790, .int .i64 793] w fun e w' => e = .returned (.bool false) ∧ w = w') := mono_eq (in_any p 790 793 w) (by unfold Ru.inB; congr 1; rw [Bool.eq_iff_iff]; simp; omega)
  have I1 : Hid (Calls Tryd.prog 36 #[.int .i64 p, .int .i64 796, .int .i64 800] w fun e w' => e = .returned (.bool false) ∧ w = w') := mono_eq (in_any p 796 800 w) (by unfold Ru.inB; congr 1; rw [Bool.eq_iff_iff]; simp; omega)
  have I2 : Hid (Calls Tryd.prog 36 #[.int .i64 p, .int .i64 803, .int .i64 806] w fun e w' => e = .returned (.bool false) ∧ w = w') := mono_eq (in_any p 803 806 w) (by unfold Ru.inB; congr 1; rw [Bool.eq_iff_iff]; simp; omega)
  have I3 : Hid (Calls Tryd.prog 36 #[.int .i64 p, .int .i64 809, .int .i64 819] w fun e w' => e = .returned (.bool false) ∧ w = w') := mono_eq (in_any p 809 819 w) (by unfold Ru.inB; congr 1; rw [Bool.eq_iff_iff]; simp; omega)
  have I4 : Hid (Calls Tryd.prog 36 #[.int .i64 p, .int .i64 801, .int .i64 802] w fun e w' => e = .returned (.bool true) ∧ w = w') := mono_eq (in_any p 801 802 w) (by unfold Ru.inB; congr 1; rw [Bool.eq_iff_iff]; simp; omega)
  have I5 : Hid (Calls Tryd.prog 36 #[.int .i64 p, .int .i64 807, .int .i64 808] w fun e w' => e = .returned (.bool false) ∧ w = w') := mono_eq (in_any p 807 808 w) (by unfold Ru.inB; congr 1; rw [Bool.eq_iff_iff]; simp; omega)
  clear h
  go_enter Tryd.func20, Tryd.ntmps20
  go_wp2_with (first
    | (go_at_call 28; refine HM.out.mono ?_; rintro e w' ⟨rfl, rfl⟩)
    | (go_at_call 36; ((with_reducible refine I0.out.mono ?_); rintro e w' ⟨rfl, rfl⟩))
    | (go_at_call 36; ((with_reducible refine I1.out.mono ?_); rintro e w' ⟨rfl, rfl⟩))
    | (go_at_call 36; ((with_reducible refine I2.out.mono ?_); rintro e w' ⟨rfl, rfl⟩))
    | (go_at_call 36; ((with_reducible refine I3.out.mono ?_); rintro e w' ⟨rfl, rfl⟩))
    | (go_at_call 36; ((with_reducible refine I4.out.mono ?_); rintro e w' ⟨rfl, rfl⟩))
    | (go_at_call 36; ((with_reducible refine I5.out.mono ?_); rintro e w' ⟨rfl, rfl⟩)))
  go_ret
  exact ⟨rfl, rfl⟩
set_option maxHeartbeats 1000000 in
theorem class_7 (p : Int) (w : World) (h : 803 ≤ p ∧ p ≤ 806) : Calls Tryd.prog 19 #[.int .i64 p] w fun e w' => e = .returned (.int .i64 220) ∧ w = w' := by
  have HM : Hid (Calls Tryd.prog 35 #[.int .i64 p] w fun e w' => e = .returned (.bool true) ∧ w = w') := mono_eq (mark_any p w) (by unfold Ru.markB; congr 1; rw [Bool.eq_iff_iff]; simp; omega)
  have g768 : decide ((768 : Int) ≤ p) = true := decide_eq_true (by omega)
  have l768 : decide (p ≤ (768 : Int)) = false := decide_eq_false (by omega)
  have g790 : decide ((790 : Int) ≤ p) = true := decide_eq_true (by omega)
  have l790 : decide (p ≤ (790 : Int)) = false := decide_eq_false (by omega)
  have g793 : decide ((793 : Int) ≤ p) = true := decide_eq_true (by omega)
  have l793 : decide (p ≤ (793 : Int)) = false := decide_eq_false (by omega)
  have g796 : decide ((796 : Int) ≤ p) = true := decide_eq_true (by omega)
  have l796 : decide (p ≤ (796 : Int)) = false := decide_eq_false (by omega)
  have g800 : decide ((800 : Int) ≤ p) = true := decide_eq_true (by omega)
  have l800 : decide (p ≤ (800 : Int)) = false := decide_eq_false (by omega)
  have g801 : decide ((801 : Int) ≤ p) = true := decide_eq_true (by omega)
  have l801 : decide (p ≤ (801 : Int)) = false := decide_eq_false (by omega)
  have g802 : decide ((802 : Int) ≤ p) = true := decide_eq_true (by omega)
  have l802 : decide (p ≤ (802 : Int)) = false := decide_eq_false (by omega)
  have g803 : decide ((803 : Int) ≤ p) = true := decide_eq_true (by omega)
  have l806 : decide (p ≤ (806 : Int)) = true := decide_eq_true (by omega)
  have g807 : decide ((807 : Int) ≤ p) = false := decide_eq_false (by omega)
  have l807 : decide (p ≤ (807 : Int)) = true := decide_eq_true (by omega)
  have g808 : decide ((808 : Int) ≤ p) = false := decide_eq_false (by omega)
  have l808 : decide (p ≤ (808 : Int)) = true := decide_eq_true (by omega)
  have g809 : decide ((809 : Int) ≤ p) = false := decide_eq_false (by omega)
  have l809 : decide (p ≤ (809 : Int)) = true := decide_eq_true (by omega)
  have g819 : decide ((819 : Int) ≤ p) = false := decide_eq_false (by omega)
  have l819 : decide (p ≤ (819 : Int)) = true := decide_eq_true (by omega)
  have g879 : decide ((879 : Int) ≤ p) = false := decide_eq_false (by omega)
  have l879 : decide (p ≤ (879 : Int)) = true := decide_eq_true (by omega)
  have e801 : (p == (801 : Int)) = false := beq_eq_false_iff_ne.2 (by omega)
  have e802 : (p == (802 : Int)) = false := beq_eq_false_iff_ne.2 (by omega)
  have e807 : (p == (807 : Int)) = false := beq_eq_false_iff_ne.2 (by omega)
  have e808 : (p == (808 : Int)) = false := beq_eq_false_iff_ne.2 (by omega)
  go_enter Tryd.func19, Tryd.ntmps19
  go_wp2_with (go_at_call 35; refine HM.out.mono ?_; rintro e w' ⟨rfl, rfl⟩)
  go_ret
  exact ⟨rfl, rfl⟩
set_option maxHeartbeats 1000000 in
theorem refClass_7 (p : Int) (w : World) (h : 803 ≤ p ∧ p ≤ 806) : Calls Tryd.prog 20 #[.int .i64 p] w fun e w' => e = .returned (.int .i64 220) ∧ w = w' := by
  have HM : Hid (Calls Tryd.prog 28 #[.int .i64 p] w fun e w' => e = .returned (.bool true) ∧ w = w') := mono_eq (refMark_any p w) (by unfold Ru.markB; congr 1; rw [Bool.eq_iff_iff]; simp; omega)
  have I0 : Hid (Calls Tryd.prog 36 #[.int .i64 p, .int .i64 790, .int .i64 793] w fun e w' => e = .returned (.bool false) ∧ w = w') := mono_eq (in_any p 790 793 w) (by unfold Ru.inB; congr 1; rw [Bool.eq_iff_iff]; simp; omega)
  have I1 : Hid (Calls Tryd.prog 36 #[.int .i64 p, .int .i64 796, .int .i64 800] w fun e w' => e = .returned (.bool false) ∧ w = w') := mono_eq (in_any p 796 800 w) (by unfold Ru.inB; congr 1; rw [Bool.eq_iff_iff]; simp; omega)
  have I2 : Hid (Calls Tryd.prog 36 #[.int .i64 p, .int .i64 803, .int .i64 806] w fun e w' => e = .returned (.bool true) ∧ w = w') := mono_eq (in_any p 803 806 w) (by unfold Ru.inB; congr 1; rw [Bool.eq_iff_iff]; simp; omega)
  have I3 : Hid (Calls Tryd.prog 36 #[.int .i64 p, .int .i64 809, .int .i64 819] w fun e w' => e = .returned (.bool false) ∧ w = w') := mono_eq (in_any p 809 819 w) (by unfold Ru.inB; congr 1; rw [Bool.eq_iff_iff]; simp; omega)
  have I4 : Hid (Calls Tryd.prog 36 #[.int .i64 p, .int .i64 801, .int .i64 802] w fun e w' => e = .returned (.bool false) ∧ w = w') := mono_eq (in_any p 801 802 w) (by unfold Ru.inB; congr 1; rw [Bool.eq_iff_iff]; simp; omega)
  have I5 : Hid (Calls Tryd.prog 36 #[.int .i64 p, .int .i64 807, .int .i64 808] w fun e w' => e = .returned (.bool false) ∧ w = w') := mono_eq (in_any p 807 808 w) (by unfold Ru.inB; congr 1; rw [Bool.eq_iff_iff]; simp; omega)
  clear h
  go_enter Tryd.func20, Tryd.ntmps20
  go_wp2_with (first
    | (go_at_call 28; refine HM.out.mono ?_; rintro e w' ⟨rfl, rfl⟩)
    | (go_at_call 36; ((with_reducible refine I0.out.mono ?_); rintro e w' ⟨rfl, rfl⟩))
    | (go_at_call 36; ((with_reducible refine I1.out.mono ?_); rintro e w' ⟨rfl, rfl⟩))
    | (go_at_call 36; ((with_reducible refine I2.out.mono ?_); rintro e w' ⟨rfl, rfl⟩))
    | (go_at_call 36; ((with_reducible refine I3.out.mono ?_); rintro e w' ⟨rfl, rfl⟩))
    | (go_at_call 36; ((with_reducible refine I4.out.mono ?_); rintro e w' ⟨rfl, rfl⟩))
    | (go_at_call 36; ((with_reducible refine I5.out.mono ?_); rintro e w' ⟨rfl, rfl⟩)))
  go_ret
  exact ⟨rfl, rfl⟩
set_option maxHeartbeats 1000000 in
theorem class_8 (p : Int) (w : World) (h : 807 ≤ p ∧ p ≤ 807) : Calls Tryd.prog 19 #[.int .i64 p] w fun e w' => e = .returned (.int .i64 202) ∧ w = w' := by
  have HM : Hid (Calls Tryd.prog 35 #[.int .i64 p] w fun e w' => e = .returned (.bool true) ∧ w = w') := mono_eq (mark_any p w) (by unfold Ru.markB; congr 1; rw [Bool.eq_iff_iff]; simp; omega)
  have g768 : decide ((768 : Int) ≤ p) = true := decide_eq_true (by omega)
  have l768 : decide (p ≤ (768 : Int)) = false := decide_eq_false (by omega)
  have g790 : decide ((790 : Int) ≤ p) = true := decide_eq_true (by omega)
  have l790 : decide (p ≤ (790 : Int)) = false := decide_eq_false (by omega)
  have g793 : decide ((793 : Int) ≤ p) = true := decide_eq_true (by omega)
  have l793 : decide (p ≤ (793 : Int)) = false := decide_eq_false (by omega)
  have g796 : decide ((796 : Int) ≤ p) = true := decide_eq_true (by omega)
  have l796 : decide (p ≤ (796 : Int)) = false := decide_eq_false (by omega)
  have g800 : decide ((800 : Int) ≤ p) = true := decide_eq_true (by omega)
  have l800 : decide (p ≤ (800 : Int)) = false := decide_eq_false (by omega)
  have g801 : decide ((801 : Int) ≤ p) = true := decide_eq_true (by omega)
  have l801 : decide (p ≤ (801 : Int)) = false := decide_eq_false (by omega)
  have g802 : decide ((802 : Int) ≤ p) = true := decide_eq_true (by omega)
  have l802 : decide (p ≤ (802 : Int)) = false := decide_eq_false (by omega)
  have g803 : decide ((803 : Int) ≤ p) = true := decide_eq_true (by omega)
  have l803 : decide (p ≤ (803 : Int)) = false := decide_eq_false (by omega)
  have g806 : decide ((806 : Int) ≤ p) = true := decide_eq_true (by omega)
  have l806 : decide (p ≤ (806 : Int)) = false := decide_eq_false (by omega)
  have g807 : decide ((807 : Int) ≤ p) = true := decide_eq_true (by omega)
  have l807 : decide (p ≤ (807 : Int)) = true := decide_eq_true (by omega)
  have g808 : decide ((808 : Int) ≤ p) = false := decide_eq_false (by omega)
  have l808 : decide (p ≤ (808 : Int)) = true := decide_eq_true (by omega)
  have g809 : decide ((809 : Int) ≤ p) = false := decide_eq_false (by omega)
  have l809 : decide (p ≤ (809 : Int)) = true := decide_eq_true (by omega)
  have g819 : decide ((819 : Int) ≤ p) = false := decide_eq_false (by omega)
  have l819 : decide (p ≤ (819 : Int)) = true := decide_eq_true (by omega)
  have g879 : decide ((879 : Int) ≤ p) = false := decide_eq_false (by omega)
  have l879 : decide (p ≤ (879 : Int)) = true := decide_eq_true (by omega)
  have e801 : (p == (801 : Int)) = false := beq_eq_false_iff_ne.2 (by omega)
  have e802 : (p == (802 : Int)) = false := beq_eq_false_iff_ne.2 (by omega)
  have e807 : (p == (807 : Int)) = true := beq_iff_eq.2 (by omega)
  have e808 : (p == (808 : Int)) = false := beq_eq_false_iff_ne.2 (by omega)
  go_enter Tryd.func19, Tryd.ntmps19
  go_wp2_with (go_at_call 35; refine HM.out.mono ?_; rintro e w' ⟨rfl, rfl⟩)
  go_ret
  exact ⟨rfl, rfl⟩
set_option maxHeartbeats 1000000 in
theorem refClass_8 (p : Int) (w : World) (h : 807 ≤ p ∧ p ≤ 807) : Calls Tryd.prog 20 #[.int .i64 p] w fun e w' => e = .returned (.int .i64 202) ∧ w = w' := by
  have HM : Hid (Calls Tryd.prog 28 #[.int .i64 p] w fun e w' => e = .returned (.bool true) ∧ w = w') := mono_eq (refMark_any p w) (by unfold Ru.markB; congr 1; rw [Bool.eq_iff_iff]; simp; omega)
  have I0 : Hid (Calls Tryd.prog 36 #[.int .i64 p, .int .i64 790, .int .i64 793] w fun e w' => e = .returned (.bool false) ∧ w = w') := mono_eq (in_any p 790 793 w) (by unfold Ru.inB; congr 1; rw [Bool.eq_iff_iff]; simp; omega)
  have I1 : Hid (Calls Tryd.prog 36 #[.int .i64 p, .int .i64 796, .int .i64 800] w fun e w' => e = .returned (.bool false) ∧ w = w') := mono_eq (in_any p 796 800 w) (by unfold Ru.inB; congr 1; rw [Bool.eq_iff_iff]; simp; omega)
  have I2 : Hid (Calls Tryd.prog 36 #[.int .i64 p, .int .i64 803, .int .i64 806] w fun e w' => e = .returned (.bool false) ∧ w = w') := mono_eq (in_any p 803 806 w) (by unfold Ru.inB; congr 1; rw [Bool.eq_iff_iff]; simp; omega)
  have I3 : Hid (Calls Tryd.prog 36 #[.int .i64 p, .int .i64 809, .int .i64 819] w fun e w' => e = .returned (.bool false) ∧ w = w') := mono_eq (in_any p 809 819 w) (by unfold Ru.inB; congr 1; rw [Bool.eq_iff_iff]; simp; omega)
  have I4 : Hid (Calls Tryd.prog 36 #[.int .i64 p, .int .i64 801, .int .i64 802] w fun e w' => e = .returned (.bool false) ∧ w = w') := mono_eq (in_any p 801 802 w) (by unfold Ru.inB; congr 1; rw [Bool.eq_iff_iff]; simp; omega)
  have I5 : Hid (Calls Tryd.prog 36 #[.int .i64 p, .int .i64 807, .int .i64 808] w fun e w' => e = .returned (.bool true) ∧ w = w') := mono_eq (in_any p 807 808 w) (by unfold Ru.inB; congr 1; rw [Bool.eq_iff_iff]; simp; omega)
  clear h
  go_enter Tryd.func20, Tryd.ntmps20
  go_wp2_with (first
    | (go_at_call 28; refine HM.out.mono ?_; rintro e w' ⟨rfl, rfl⟩)
    | (go_at_call 36; ((with_reducible refine I0.out.mono ?_); rintro e w' ⟨rfl, rfl⟩))
    | (go_at_call 36; ((with_reducible refine I1.out.mono ?_); rintro e w' ⟨rfl, rfl⟩))
    | (go_at_call 36; ((with_reducible refine I2.out.mono ?_); rintro e w' ⟨rfl, rfl⟩))
    | (go_at_call 36; ((with_reducible refine I3.out.mono ?_); rintro e w' ⟨rfl, rfl⟩))
    | (go_at_call 36; ((with_reducible refine I4.out.mono ?_); rintro e w' ⟨rfl, rfl⟩))
    | (go_at_call 36; ((with_reducible refine I5.out.mono ?_); rintro e w' ⟨rfl, rfl⟩)))
  go_ret
  exact ⟨rfl, rfl⟩
set_option maxHeartbeats 1000000 in
theorem class_9 (p : Int) (w : World) (h : 808 ≤ p ∧ p ≤ 808) : Calls Tryd.prog 19 #[.int .i64 p] w fun e w' => e = .returned (.int .i64 202) ∧ w = w' := by
  have HM : Hid (Calls Tryd.prog 35 #[.int .i64 p] w fun e w' => e = .returned (.bool true) ∧ w = w') := mono_eq (mark_any p w) (by unfold Ru.markB; congr 1; rw [Bool.eq_iff_iff]; simp; omega)
  have g768 : decide ((768 : Int) ≤ p) = true := decide_eq_true (by omega)
  have l768 : decide (p ≤ (768 : Int)) = false := decide_eq_false (by omega)
  have g790 : decide ((790 : Int) ≤ p) = true := decide_eq_true (by omega)
  have l790 : decide (p ≤ (790 : Int)) = false := decide_eq_false (by omega)
  have g793 : decide ((793 : Int) ≤ p) = true := decide_eq_true (by omega)
  have l793 : decide (p ≤ (793 : Int)) = false := decide_eq_false (by omega)
  have g796 : decide ((796 : Int) ≤ p) = true := decide_eq_true (by omega)
  have l796 : decide (p ≤ (796 : Int)) = false := decide_eq_false (by omega)
  have g800 : decide ((800 : Int) ≤ p) = true := decide_eq_true (by omega)
  have l800 : decide (p ≤ (800 : Int)) = false := decide_eq_false (by omega)
  have g801 : decide ((801 : Int) ≤ p) = true := decide_eq_true (by omega)
  have l801 : decide (p ≤ (801 : Int)) = false := decide_eq_false (by omega)
  have g802 : decide ((802 : Int) ≤ p) = true := decide_eq_true (by omega)
  have l802 : decide (p ≤ (802 : Int)) = false := decide_eq_false (by omega)
  have g803 : decide ((803 : Int) ≤ p) = true := decide_eq_true (by omega)
  have l803 : decide (p ≤ (803 : Int)) = false := decide_eq_false (by omega)
  have g806 : decide ((806 : Int) ≤ p) = true := decide_eq_true (by omega)
  have l806 : decide (p ≤ (806 : Int)) = false := decide_eq_false (by omega)
  have g807 : decide ((807 : Int) ≤ p) = true := decide_eq_true (by omega)
  have l807 : decide (p ≤ (807 : Int)) = false := decide_eq_false (by omega)
  have g808 : decide ((808 : Int) ≤ p) = true := decide_eq_true (by omega)
  have l808 : decide (p ≤ (808 : Int)) = true := decide_eq_true (by omega)
  have g809 : decide ((809 : Int) ≤ p) = false := decide_eq_false (by omega)
  have l809 : decide (p ≤ (809 : Int)) = true := decide_eq_true (by omega)
  have g819 : decide ((819 : Int) ≤ p) = false := decide_eq_false (by omega)
  have l819 : decide (p ≤ (819 : Int)) = true := decide_eq_true (by omega)
  have g879 : decide ((879 : Int) ≤ p) = false := decide_eq_false (by omega)
  have l879 : decide (p ≤ (879 : Int)) = true := decide_eq_true (by omega)
  have e801 : (p == (801 : Int)) = false := beq_eq_false_iff_ne.2 (by omega)
  have e802 : (p == (802 : Int)) = false := beq_eq_false_iff_ne.2 (by omega)
  have e807 : (p == (807 : Int)) = false := beq_eq_false_iff_ne.2 (by omega)
  have e808 : (p == (808 : Int)) = true := beq_iff_eq.2 (by omega)
  go_enter Tryd.func19, Tryd.ntmps19
  go_wp2_with (go_at_call 35; refine HM.out.mono ?_; rintro e w' ⟨rfl, rfl⟩)
  go_ret
  exact ⟨rfl, rfl⟩
set_option maxHeartbeats 1000000 in
theorem refClass_9 (p : Int) (w : World) (h : 808 ≤ p ∧ p ≤ 808) : Calls Tryd.prog 20 #[.int .i64 p] w fun e w' => e = .returned (.int .i64 202) ∧ w = w' := by
  have HM : Hid (Calls Tryd.prog 28 #[.int .i64 p] w fun e w' => e = .returned (.bool true) ∧ w = w') := mono_eq (refMark_any p w) (by unfold Ru.markB; congr 1; rw [Bool.eq_iff_iff]; simp; omega)
  have I0 : Hid (Calls Tryd.prog 36 #[.int .i64 p, .int .i64 790, .int .i64 793] w fun e w' => e = .returned (.bool false) ∧ w = w') := mono_eq (in_any p 790 793 w) (by unfold Ru.inB; congr 1; rw [Bool.eq_iff_iff]; simp; omega)
  have I1 : Hid (Calls Tryd.prog 36 #[.int .i64 p, .int .i64 796, .int .i64 800] w fun e w' => e = .returned (.bool false) ∧ w = w') := mono_eq (in_any p 796 800 w) (by unfold Ru.inB; congr 1; rw [Bool.eq_iff_iff]; simp; omega)
  have I2 : Hid (Calls Tryd.prog 36 #[.int .i64 p, .int .i64 803, .int .i64 806] w fun e w' => e = .returned (.bool false) ∧ w = w') := mono_eq (in_any p 803 806 w) (by unfold Ru.inB; congr 1; rw [Bool.eq_iff_iff]; simp; omega)
  have I3 : Hid (Calls Tryd.prog 36 #[.int .i64 p, .int .i64 809, .int .i64 819] w fun e w' => e = .returned (.bool false) ∧ w = w') := mono_eq (in_any p 809 819 w) (by unfold Ru.inB; congr 1; rw [Bool.eq_iff_iff]; simp; omega)
  have I4 : Hid (Calls Tryd.prog 36 #[.int .i64 p, .int .i64 801, .int .i64 802] w fun e w' => e = .returned (.bool false) ∧ w = w') := mono_eq (in_any p 801 802 w) (by unfold Ru.inB; congr 1; rw [Bool.eq_iff_iff]; simp; omega)
  have I5 : Hid (Calls Tryd.prog 36 #[.int .i64 p, .int .i64 807, .int .i64 808] w fun e w' => e = .returned (.bool true) ∧ w = w') := mono_eq (in_any p 807 808 w) (by unfold Ru.inB; congr 1; rw [Bool.eq_iff_iff]; simp; omega)
  clear h
  go_enter Tryd.func20, Tryd.ntmps20
  go_wp2_with (first
    | (go_at_call 28; refine HM.out.mono ?_; rintro e w' ⟨rfl, rfl⟩)
    | (go_at_call 36; ((with_reducible refine I0.out.mono ?_); rintro e w' ⟨rfl, rfl⟩))
    | (go_at_call 36; ((with_reducible refine I1.out.mono ?_); rintro e w' ⟨rfl, rfl⟩))
    | (go_at_call 36; ((with_reducible refine I2.out.mono ?_); rintro e w' ⟨rfl, rfl⟩))
    | (go_at_call 36; ((with_reducible refine I3.out.mono ?_); rintro e w' ⟨rfl, rfl⟩))
    | (go_at_call 36; ((with_reducible refine I4.out.mono ?_); rintro e w' ⟨rfl, rfl⟩))
    | (go_at_call 36; ((with_reducible refine I5.out.mono ?_); rintro e w' ⟨rfl, rfl⟩)))
  go_ret
  exact ⟨rfl, rfl⟩
set_option maxHeartbeats 1000000 in
theorem class_10 (p : Int) (w : World) (h : 809 ≤ p ∧ p ≤ 819) : Calls Tryd.prog 19 #[.int .i64 p] w fun e w' => e = .returned (.int .i64 220) ∧ w = w' := by
  have HM : Hid (Calls Tryd.prog 35 #[.int .i64 p] w fun e w' => e = .returned (.bool true) ∧ w = w') := mono_eq (mark_any p w) (by unfold Ru.markB; congr 1; rw [Bool.eq_iff_iff]; simp; omega)
  have g768 : decide ((768 : Int) ≤ p) = true := decide_eq_true (by omega)
  have l768 : decide (p ≤ (768 : Int)) = false := decide_eq_false (by omega)
  have g790 : decide ((790 : Int) ≤ p) = true := decide_eq_true (by omega)
  have l790 : decide (p ≤ (790 : Int)) = false := decide_eq_false (by omega)
  have g793 : decide ((793 : Int) ≤ p) = true := decide_eq_true (by omega)
  have l793 : decide (p ≤ (793 : Int)) = false := decide_eq_false (by omega)
  have g796 : decide ((796 : Int) ≤ p) = true := decide_eq_true (by omega)
  have l796 : decide (p ≤ (796 : Int)) = false := decide_eq_false (by omega)
  have g800 : decide ((800 : Int) ≤ p) = true := decide_eq_true (by omega)
  have l800 : decide (p ≤ (800 : Int)) = false := decide_eq_false (by omega)
  have g801 : decide ((801 : Int) ≤ p) = true := decide_eq_true (by omega)
  have l801 : decide (p ≤ (801 : Int)) = false := decide_eq_false (by omega)
  have g802 : decide ((802 : Int) ≤ p) = true := decide_eq_true (by omega)
  have l802 : decide (p ≤ (802 : Int)) = false := decide_eq_false (by omega)
  have g803 : decide ((803 : Int) ≤ p) = true := decide_eq_true (by omega)
  have l803 : decide (p ≤ (803 : Int)) = false := decide_eq_false (by omega)
  have g806 : decide ((806 : Int) ≤ p) = true := decide_eq_true (by omega)
  have l806 : decide (p ≤ (806 : Int)) = false := decide_eq_false (by omega)
  have g807 : decide ((807 : Int) ≤ p) = true := decide_eq_true (by omega)
  have l807 : decide (p ≤ (807 : Int)) = false := decide_eq_false (by omega)
  have g808 : decide ((808 : Int) ≤ p) = true := decide_eq_true (by omega)
  have l808 : decide (p ≤ (808 : Int)) = false := decide_eq_false (by omega)
  have g809 : decide ((809 : Int) ≤ p) = true := decide_eq_true (by omega)
  have l819 : decide (p ≤ (819 : Int)) = true := decide_eq_true (by omega)
  have g879 : decide ((879 : Int) ≤ p) = false := decide_eq_false (by omega)
  have l879 : decide (p ≤ (879 : Int)) = true := decide_eq_true (by omega)
  have e801 : (p == (801 : Int)) = false := beq_eq_false_iff_ne.2 (by omega)
  have e802 : (p == (802 : Int)) = false := beq_eq_false_iff_ne.2 (by omega)
  have e807 : (p == (807 : Int)) = false := beq_eq_false_iff_ne.2 (by omega)
  have e808 : (p == (808 : Int)) = false := beq_eq_false_iff_ne.2 (by omega)
  go_enter Tryd.func19, Tryd.ntmps19
  go_wp2_with (go_at_call 35; refine HM.out.mono ?_; rintro e w' ⟨rfl, rfl⟩)
  go_ret
  exact ⟨rfl, rfl⟩
set_option maxHeartbeats 1000000 in
theorem refClass_10 (p : Int) (w : World) (h : 809 ≤ p ∧ p ≤ 819) : Calls Tryd.prog 20 #[.int .i64 p] w fun e w' => e = .returned (.int .i64 220) ∧ w = w' := by
  have HM : Hid (Calls Tryd.prog 28 #[.int .i64 p] w fun e w' => e = .returned (.bool true) ∧ w = w') := mono_eq (refMark_any p w) (by unfold Ru.markB; congr 1; rw [Bool.eq_iff_iff]; simp; omega)
  have I0 : Hid (Calls Tryd.prog 36 #[.int .i64 p, .int .i64 790, .int .i64 793] w fun e w' => e = .returned (.bool false) ∧ w = w') := mono_eq (in_any p 790 793 w) (by unfold Ru.inB; congr 1; rw [Bool.eq_iff_iff]; simp; omega)
  have I1 : Hid (Calls Tryd.prog 36 #[.int .i64 p, .int .i64 796, .int .i64 800] w fun e w' => e = .returned (.bool false) ∧ w = w') := mono_eq (in_any p 796 800 w) (by unfold Ru.inB; congr 1; rw [Bool.eq_iff_iff]; simp; omega)
  have I2 : Hid (Calls Tryd.prog 36 #[.int .i64 p, .int .i64 803, .int .i64 806] w fun e w' => e = .returned (.bool false) ∧ w = w') := mono_eq (in_any p 803 806 w) (by unfold Ru.inB; congr 1; rw [Bool.eq_iff_iff]; simp; omega)
  have I3 : Hid (Calls Tryd.prog 36 #[.int .i64 p, .int .i64 809, .int .i64 819] w fun e w' => e = .returned (.bool true) ∧ w = w') := mono_eq (in_any p 809 819 w) (by unfold Ru.inB; congr 1; rw [Bool.eq_iff_iff]; simp; omega)
  have I4 : Hid (Calls Tryd.prog 36 #[.int .i64 p, .int .i64 801, .int .i64 802] w fun e w' => e = .returned (.bool false) ∧ w = w') := mono_eq (in_any p 801 802 w) (by unfold Ru.inB; congr 1; rw [Bool.eq_iff_iff]; simp; omega)
  have I5 : Hid (Calls Tryd.prog 36 #[.int .i64 p, .int .i64 807, .int .i64 808] w fun e w' => e = .returned (.bool false) ∧ w = w') := mono_eq (in_any p 807 808 w) (by unfold Ru.inB; congr 1; rw [Bool.eq_iff_iff]; simp; omega)
  clear h
  go_enter Tryd.func20, Tryd.ntmps20
  go_wp2_with (first
    | (go_at_call 28; refine HM.out.mono ?_; rintro e w' ⟨rfl, rfl⟩)
    | (go_at_call 36; ((with_reducible refine I0.out.mono ?_); rintro e w' ⟨rfl, rfl⟩))
    | (go_at_call 36; ((with_reducible refine I1.out.mono ?_); rintro e w' ⟨rfl, rfl⟩))
    | (go_at_call 36; ((with_reducible refine I2.out.mono ?_); rintro e w' ⟨rfl, rfl⟩))
    | (go_at_call 36; ((with_reducible refine I3.out.mono ?_); rintro e w' ⟨rfl, rfl⟩))
    | (go_at_call 36; ((with_reducible refine I4.out.mono ?_); rintro e w' ⟨rfl, rfl⟩))
    | (go_at_call 36; ((with_reducible refine I5.out.mono ?_); rintro e w' ⟨rfl, rfl⟩)))
  go_ret
  exact ⟨rfl, rfl⟩
set_option maxHeartbeats 1000000 in
theorem class_11 (p : Int) (w : World) (h : 820 ≤ p ∧ p ≤ 879) : Calls Tryd.prog 19 #[.int .i64 p] w fun e w' => e = .returned (.int .i64 230) ∧ w = w' := by
  have HM : Hid (Calls Tryd.prog 35 #[.int .i64 p] w fun e w' => e = .returned (.bool true) ∧ w = w') := mono_eq (mark_any p w) (by unfold Ru.markB; congr 1; rw [Bool.eq_iff_iff]; simp; omega)
  have g768 : decide ((768 : Int) ≤ p) = true := decide_eq_true (by omega)
  have l768 : decide (p ≤ (768 : Int)) = false := decide_eq_false (by omega)
  have g790 : decide ((790 : Int) ≤ p) = true := decide_eq_true (by omega)
  have l790 : decide (p ≤ (790 : Int)) = false := decide_eq_false (by omega)
  have g793 : decide ((793 : Int) ≤ p) = true := decide_eq_true (by omega)
  have l793 : decide (p ≤ (793 : Int)) = false := decide_eq_false (by omega)
  have g796 : decide ((796 : Int) ≤ p) = true := decide_eq_true (by omega)
  have l796 : decide (p ≤ (796 : Int)) = false := decide_eq_false (by omega)
  have g800 : decide ((800 : Int) ≤ p) = true := decide_eq_true (by omega)
  have l800 : decide (p ≤ (800 : Int)) = false := decide_eq_false (by omega)
  have g801 : decide ((801 : Int) ≤ p) = true := decide_eq_true (by omega)
  have l801 : decide (p ≤ (801 : Int)) = false := decide_eq_false (by omega)
  have g802 : decide ((802 : Int) ≤ p) = true := decide_eq_true (by omega)
  have l802 : decide (p ≤ (802 : Int)) = false := decide_eq_false (by omega)
  have g803 : decide ((803 : Int) ≤ p) = true := decide_eq_true (by omega)
  have l803 : decide (p ≤ (803 : Int)) = false := decide_eq_false (by omega)
  have g806 : decide ((806 : Int) ≤ p) = true := decide_eq_true (by omega)
  have l806 : decide (p ≤ (806 : Int)) = false := decide_eq_false (by omega)
  have g807 : decide ((807 : Int) ≤ p) = true := decide_eq_true (by omega)
  have l807 : decide (p ≤ (807 : Int)) = false := decide_eq_false (by omega)
  have g808 : decide ((808 : Int) ≤ p) = true := decide_eq_true (by omega)
  have l808 : decide (p ≤ (808 : Int)) = false := decide_eq_false (by omega)
  have g809 : decide ((809 : Int) ≤ p) = true := decide_eq_true (by omega)
  have l809 : decide (p ≤ (809 : Int)) = false := decide_eq_false (by omega)
  have g819 : decide ((819 : Int) ≤ p) = true := decide_eq_true (by omega)
  have l819 : decide (p ≤ (819 : Int)) = false := decide_eq_false (by omega)
  have l879 : decide (p ≤ (879 : Int)) = true := decide_eq_true (by omega)
  have e801 : (p == (801 : Int)) = false := beq_eq_false_iff_ne.2 (by omega)
  have e802 : (p == (802 : Int)) = false := beq_eq_false_iff_ne.2 (by omega)
  have e807 : (p == (807 : Int)) = false := beq_eq_false_iff_ne.2 (by omega)
  have e808 : (p == (808 : Int)) = false := beq_eq_false_iff_ne.2 (by omega)
  go_enter Tryd.func19, Tryd.ntmps19
  go_wp2_with (go_at_call 35; refine HM.out.mono ?_; rintro e w' ⟨rfl, rfl⟩)
  go_ret
  exact ⟨rfl, rfl⟩
set_option maxHeartbeats 1000000 in
theorem refClass_11 (p : Int) (w : World) (h : 820 ≤ p ∧ p ≤ 879) : Calls Tryd.prog 20 #[.int .i64 p] w fun e w' => e = .returned (.int .i64 230) ∧ w = w' := by
  have HM : Hid (Calls Tryd.prog 28 #[.int .i64 p] w fun e w' => e = .returned (.bool true) ∧ w = w') := mono_eq (refMark_any p w) (by unfold Ru.markB; congr 1; rw [Bool.eq_iff_iff]; simp; omega)
  have I0 : Hid (Calls Tryd.prog 36 #[.int .i64 p, .int .i64 790, .int .i64 793] w fun e w' => e = .returned (.bool false) ∧ w = w') := mono_eq (in_any p 790 793 w) (by unfold Ru.inB; congr 1; rw [Bool.eq_iff_iff]; simp; omega)
  have I1 : Hid (Calls Tryd.prog 36 #[.int .i64 p, .int .i64 796, .int .i64 800] w fun e w' => e = .returned (.bool false) ∧ w = w') := mono_eq (in_any p 796 800 w) (by unfold Ru.inB; congr 1; rw [Bool.eq_iff_iff]; simp; omega)
  have I2 : Hid (Calls Tryd.prog 36 #[.int .i64 p, .int .i64 803, .int .i64 806] w fun e w' => e = .returned (.bool false) ∧ w = w') := mono_eq (in_any p 803 806 w) (by unfold Ru.inB; congr 1; rw [Bool.eq_iff_iff]; simp; omega)
  have I3 : Hid (Calls Tryd.prog 36 #[.int .i64 p, .int .i64 809, .int .i64 819] w fun e w' => e = .returned (.bool false) ∧ w = w') := mono_eq (in_any p 809 819 w) (by unfold Ru.inB; congr 1; rw [Bool.eq_iff_iff]; simp; omega)
  have I4 : Hid (Calls Tryd.prog 36 #[.int .i64 p, .int .i64 801, .int .i64 802] w fun e w' => e = .returned (.bool false) ∧ w = w') := mono_eq (in_any p 801 802 w) (by unfold Ru.inB; congr 1; rw [Bool.eq_iff_iff]; simp; omega)
  have I5 : Hid (Calls Tryd.prog 36 #[.int .i64 p, .int .i64 807, .int .i64 808] w fun e w' => e = .returned (.bool false) ∧ w = w') := mono_eq (in_any p 807 808 w) (by unfold Ru.inB; congr 1; rw [Bool.eq_iff_iff]; simp; omega)
  clear h
  go_enter Tryd.func20, Tryd.ntmps20
  go_wp2_with (first
    | (go_at_call 28; refine HM.out.mono ?_; rintro e w' ⟨rfl, rfl⟩)
    | (go_at_call 36; ((with_reducible refine I0.out.mono ?_); rintro e w' ⟨rfl, rfl⟩))
    | (go_at_call 36; ((with_reducible refine I1.out.mono ?_); rintro e w' ⟨rfl, rfl⟩))
    | (go_at_call 36; ((with_reducible refine I2.out.mono ?_); rintro e w' ⟨rfl, rfl⟩))
    | (go_at_call 36; ((with_reducible refine I3.out.mono ?_); rintro e w' ⟨rfl, rfl⟩))
    | (go_at_call 36; ((with_reducible refine I4.out.mono ?_); rintro e w' ⟨rfl, rfl⟩))
    | (go_at_call 36; ((with_reducible refine I5.out.mono ?_); rintro e w' ⟨rfl, rfl⟩)))
  go_ret
  exact ⟨rfl, rfl⟩
set_option maxHeartbeats 1000000 in
theorem class_12 (p : Int) (w : World) (h : 880 ≤ p) : Calls Tryd.prog 19 #[.int .i64 p] w fun e w' => e = .returned (.int .i64 0) ∧ w = w' := by
  have HM : Hid (Calls Tryd.prog 35 #[.int .i64 p] w fun e w' => e = .returned (.bool false) ∧ w = w') := mono_eq (mark_any p w) (by unfold Ru.markB; congr 1; rw [Bool.eq_iff_iff]; simp; omega)
  have g768 : decide ((768 : Int) ≤ p) = true := decide_eq_true (by omega)
  have l768 : decide (p ≤ (768 : Int)) = false := decide_eq_false (by omega)
  have g790 : decide ((790 : Int) ≤ p) = true := decide_eq_true (by omega)
  have l790 : decide (p ≤ (790 : Int)) = false := decide_eq_false (by omega)
  have g793 : decide ((793 : Int) ≤ p) = true := decide_eq_true (by omega)
  have l793 : decide (p ≤ (793 : Int)) = false := decide_eq_false (by omega)
  have g796 : decide ((796 : Int) ≤ p) = true := decide_eq_true (by omega)
  have l796 : decide (p ≤ (796 : Int)) = false := decide_eq_false (by omega)
  have g800 : decide ((800 : Int) ≤ p) = true := decide_eq_true (by omega)
  have l800 : decide (p ≤ (800 : Int)) = false := decide_eq_false (by omega)
  have g801 : decide ((801 : Int) ≤ p) = true := decide_eq_true (by omega)
  have l801 : decide (p ≤ (801 : Int)) = false := decide_eq_false (by omega)
  have g802 : decide ((802 : Int) ≤ p) = true := decide_eq_true (by omega)
  have l802 : decide (p ≤ (802 : Int)) = false := decide_eq_false (by omega)
  have g803 : decide ((803 : Int) ≤ p) = true := decide_eq_true (by omega)
  have l803 : decide (p ≤ (803 : Int)) = false := decide_eq_false (by omega)
  have g806 : decide ((806 : Int) ≤ p) = true := decide_eq_true (by omega)
  have l806 : decide (p ≤ (806 : Int)) = false := decide_eq_false (by omega)
  have g807 : decide ((807 : Int) ≤ p) = true := decide_eq_true (by omega)
  have l807 : decide (p ≤ (807 : Int)) = false := decide_eq_false (by omega)
  have g808 : decide ((808 : Int) ≤ p) = true := decide_eq_true (by omega)
  have l808 : decide (p ≤ (808 : Int)) = false := decide_eq_false (by omega)
  have g809 : decide ((809 : Int) ≤ p) = true := decide_eq_true (by omega)
  have l809 : decide (p ≤ (809 : Int)) = false := decide_eq_false (by omega)
  have g819 : decide ((819 : Int) ≤ p) = true := decide_eq_true (by omega)
  have l819 : decide (p ≤ (819 : Int)) = false := decide_eq_false (by omega)
  have g879 : decide ((879 : Int) ≤ p) = true := decide_eq_true (by omega)
  have l879 : decide (p ≤ (879 : Int)) = false := decide_eq_false (by omega)
  have e801 : (p == (801 : Int)) = false := beq_eq_false_iff_ne.2 (by omega)
  have e802 : (p == (802 : Int)) = false := beq_eq_false_iff_ne.2 (by omega)
  have e807 : (p == (807 : Int)) = false := beq_eq_false_iff_ne.2 (by omega)
  have e808 : (p == (808 : Int)) = false := beq_eq_false_iff_ne.2 (by omega)
  go_enter Tryd.func19, Tryd.ntmps19
  go_wp2_with (go_at_call 35; refine HM.out.mono ?_; rintro e w' ⟨rfl, rfl⟩)
  go_ret
  exact ⟨rfl, rfl⟩
set_option maxHeartbeats 1000000 in
theorem refClass_12 (p : Int) (w : World) (h : 880 ≤ p) : Calls Tryd.prog 20 #[.int .i64 p] w fun e w' => e = .returned (.int .i64 0) ∧ w = w' := by
  have HM : Hid (Calls Tryd.prog 28 #[.int .i64 p] w fun e w' => e = .returned (.bool false) ∧ w = w') := mono_eq (refMark_any p w) (by unfold Ru.markB; congr 1; rw [Bool.eq_iff_iff]; simp; omega)
  clear h
  go_enter Tryd.func20, Tryd.ntmps20
  go_wp2_with (first
    | (go_at_call 28; refine HM.out.mono ?_; rintro e w' ⟨rfl, rfl⟩))
  go_ret
  exact ⟨rfl, rfl⟩
theorem class_any (p : Int) (w : World) : Calls Tryd.prog 19 #[.int .i64 p] w fun e w' => e = .returned (.int .i64 (Ru.classI p)) ∧ w = w' := by
  rcases Ru.ranges p with h | h | h | h | h | h | h | h | h | h | h | h | h
  · rw [Ru.class0 p h]; exact class_0 p w h
  · rw [Ru.class1 p h]; exact class_1 p w h
  · rw [Ru.class2 p h]; exact class_2 p w h
  · rw [Ru.class3 p h]; exact class_3 p w h
  · rw [Ru.class4 p h]; exact class_4 p w h
  · rw [Ru.class5 p h]; exact class_5 p w h
  · rw [Ru.class6 p h]; exact class_6 p w h
  · rw [Ru.class7 p h]; exact class_7 p w h
  · rw [Ru.class8 p h]; exact class_8 p w h
  · rw [Ru.class9 p h]; exact class_9 p w h
  · rw [Ru.class10 p h]; exact class_10 p w h
  · rw [Ru.class11 p h]; exact class_11 p w h
  · rw [Ru.class12 p h]; exact class_12 p w h
theorem refClass_any (p : Int) (w : World) : Calls Tryd.prog 20 #[.int .i64 p] w fun e w' => e = .returned (.int .i64 (Ru.classI p)) ∧ w = w' := by
  rcases Ru.ranges p with h | h | h | h | h | h | h | h | h | h | h | h | h
  · rw [Ru.class0 p h]; exact refClass_0 p w h
  · rw [Ru.class1 p h]; exact refClass_1 p w h
  · rw [Ru.class2 p h]; exact refClass_2 p w h
  · rw [Ru.class3 p h]; exact refClass_3 p w h
  · rw [Ru.class4 p h]; exact refClass_4 p w h
  · rw [Ru.class5 p h]; exact refClass_5 p w h
  · rw [Ru.class6 p h]; exact refClass_6 p w h
  · rw [Ru.class7 p h]; exact refClass_7 p w h
  · rw [Ru.class8 p h]; exact refClass_8 p w h
  · rw [Ru.class9 p h]; exact refClass_9 p w h
  · rw [Ru.class10 p h]; exact refClass_10 p w h
  · rw [Ru.class11 p h]; exact refClass_11 p w h
  · rw [Ru.class12 p h]; exact refClass_12 p w h
theorem class_range (p : Int) : 0 ≤ Ru.classI p ∧ Ru.classI p ≤ 230 := by
  unfold Ru.classI
  repeat' split
  all_goals omega
theorem class_zero (p : Int) : Ru.classI p = 0 ↔ Ru.markB p = false := by
  unfold Ru.classI
  repeat' split
  all_goals simp_all
end Go.Proofs.YtplchlkdijjamaaDoor
