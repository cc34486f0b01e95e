import Derived.Test.YtgbhpmbkhhbifaaLetLaw
namespace Go.Proofs.Ytgbhpmbkhhbifaa
open Go.RowKit
set_option linter.unusedVariables false
set_option linter.unusedSimpArgs false

/-- 'short': at most 30 strings of at most 80 bytes. -/
def shortB (l : List ByteArray) : Bool := decide (l.length ≤ 30) && l.all fun s => decide (s.size ≤ 80)
theorem shortB_size {l : List ByteArray} (h : shortB l = true) : l.length ≤ 30 ∧ ∀ s, s ∈ l → s.size ≤ 80 := by
  unfold shortB at h
  rw [Bool.and_eq_true, List.all_eq_true] at h
  exact ⟨of_decide_eq_true h.1, fun s hs => of_decide_eq_true (h.2 s hs)⟩
set_option maxHeartbeats 1000000 in
theorem short_any (A : Option Addr) (n c : Nat) (l : List ByteArray) (w : World) (h : SR w w.heap.size A n l) (hn : n ≤ 9223372036854775807) :
    Calls Try.prog 20 #[.slice A n c] w fun e w' => e = .returned (.bool (shortB l)) ∧ w = w' := by
  have HX := Lib.hid h.len
  go_enter Try.func20, Try.ntmps20
  go_wp2_with fail
  go_loop [3] (fun i => ∃ k : Nat, k ≤ n ∧ k ≤ 31 ∧ i = .int .i64 k ∧ Hid (∀ s, s ∈ l.take k → s.size ≤ 80)) (fun i => n - (intOf i).toNat)
  case atStart => exact ⟨0, Nat.zero_le _, by omega, rfl, fun s hs => by simp at hs⟩
  case round =>
    obtain ⟨k, hk, hk31, rfl, hpre⟩ := hrel
    by_cases hlt : k < n
    · have hkn : (k : Int) < (n : Int) := by omega
      by_cases hlt2 : k < 31
      · have hk3 : (k : Int) < 31 := by omega
        obtain ⟨ad, x, rfl, _, hx, hcx⟩ := h.at_ hlt
        have HXK := Lib.hid hx; clear hx
        by_cases hxy : x.size ≤ 80
        · have hz : decide ((80 : Int) < (x.size : Int)) = false := decide_eq_false (by omega)
          have HN : Hid (∀ s, s ∈ l.take (k + 1) → s.size ≤ 80) := fun s hs => by
            rw [List.take_add_one, HXK.out] at hs
            rcases List.mem_append.1 hs with hs | hs
            · exact hpre.out s hs
            · simp at hs; rw [hs]; exact hxy
          go_wp2
          go_round
          case rel => exact ⟨k + 1, by omega, by omega, by go_num, HN⟩
          case measure => simp [intOf]; omega
        · have hz : decide ((80 : Int) < (x.size : Int)) = true := decide_eq_true (by omega)
          have HRES : Hid (shortB l = false) := by
            cases hh : shortB l with
            | false => rfl
            | true => exact absurd ((shortB_size hh).2 x (List.mem_of_getElem? HXK.out)) hxy
          go_wp2
          go_ret
          exact ⟨ret_bool HRES.out.symm, rfl⟩
      · have hk3 : ¬ (k : Int) < 31 := by omega
        have HRES : Hid (shortB l = false) := by
          cases hh : shortB l with
          | false => rfl
          | true => have := (shortB_size hh).1; rw [HX.out] at this; omega
        have hn30 : ¬ (n : Int) ≤ 30 := by omega
        go_wp2
        go_ret
        exact ⟨ret_bool (by rw [HRES.out]), rfl⟩
    · obtain rfl : n = k := by omega
      have hkn : ¬ (n : Int) < (n : Int) := by omega
      have HRES : Hid (shortB l = decide (n ≤ 30)) := by
        show _ = _
        unfold shortB
        rw [HX.out]
        have : (l.all fun s => decide (s.size ≤ 80)) = true := by
          rw [List.all_eq_true]
          intro s hs
          have := hpre.out
          rw [List.take_of_length_le (by rw [HX.out]; exact Nat.le_refl _)] at this
          exact decide_eq_true (this s hs)
        rw [this, Bool.and_true]
      go_wp2
      go_ret
      exact ⟨ret_bool (by rw [HRES.out]; first | rfl | (congr 1; exact propext ⟨fun h => by omega, fun h => by omega⟩) | (simp; omega)), rfl⟩
end Go.Proofs.Ytgbhpmbkhhbifaa
