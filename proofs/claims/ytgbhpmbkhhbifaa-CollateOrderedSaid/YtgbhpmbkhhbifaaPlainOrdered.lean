/-
  PLAIN LAW: the section grows with the order; what a permutation counts. No program in sight.
-/
import Derived.Test.YtgbhpmbkhhbifaaPlainHeads
import Derived.Test.YtgbhpmbkhhbifaaSort
set_option linter.unusedVariables false
set_option linter.unusedSimpArgs false
namespace Go.Proofs.Ytgbhpmbkhhbifaa
open Col Srt

/-- The section, and the number of letters where there is none and the string is not empty. -/
def rankS (L : List (List ByteArray)) (s : List UInt8) : Int := if section_ L s < 0 ∧ s ≠ [] then (L.length : Int) else section_ L s
theorem rank_nil (L : List (List ByteArray)) : rankS L [] = -1 := rfl
theorem rank_yes {L : List (List ByteArray)} {s : List UInt8} {a b m : Nat} (hs : s ≠ []) (h : firstF L s = (a, b, m, true)) : rankS L s = a := by
  unfold rankS
  rw [section_yes hs h, if_neg (by omega)]
theorem rank_no {L : List (List ByteArray)} {s : List UInt8} {a b m : Nat} (hs : s ≠ []) (h : firstF L s = (a, b, m, false)) : rankS L s = L.length := by
  unfold rankS
  rw [section_no hs h, if_pos ⟨by omega, hs⟩]
theorem rank_low (L : List (List ByteArray)) (s : List UInt8) : -1 ≤ rankS L s := by
  by_cases hs : s = []
  · subst hs; rw [rank_nil]; omega
  · obtain ⟨⟨a, b, m, o⟩, hf⟩ : ∃ x, firstF L s = x := ⟨_, rfl⟩
    cases o with
    | true => rw [rank_yes hs hf]; omega
    | false => rw [rank_no hs hf]; omega
theorem first_key {L : List (List ByteArray)} {s : List UInt8} (hs : s ≠ []) : ∃ (a : Nat) (r : List Int), primI L s = (a : Int) :: r ∧ ((a < L.length ∧ rankS L s = a) ∨ (L.length ≤ a ∧ rankS L s = L.length)) := by
  obtain ⟨⟨a, b, m, o⟩, hf⟩ : ∃ x, firstF L s = x := ⟨_, rfl⟩
  unfold primI
  rw [letters_cons L s hs, List.map_cons]
  refine ⟨_, _, rfl, ?_⟩
  cases o with
  | true =>
    rw [take1_true hf]
    exact .inl ⟨firstF_lt hf, rank_yes hs hf⟩
  | false =>
    rw [take1_false hf]
    exact .inr ⟨by simp, rank_no hs hf⟩
theorem rank_le {L : List (List ByteArray)} {s t : List UInt8} (h : cmpS L s t ≤ 0) : rankS L s ≤ rankS L t := by
  have hp : cmpI (primI L s) (primI L t) ≤ 0 := by
    unfold cmpS or2 at h
    split at h
    · omega
    · exact h
  by_cases hs : s = []
  · subst hs; rw [rank_nil]; exact rank_low L t
  · obtain ⟨a, r, ea, ha⟩ := first_key (L := L) hs
    rw [ea] at hp
    by_cases ht : t = []
    · subst ht
      rw [show primI L [] = [] from rfl] at hp
      simp [cmpI] at hp
    · obtain ⟨b, q, eb, hb⟩ := first_key (L := L) ht
      rw [eb] at hp
      have hab : a ≤ b := by
        rw [cmpI] at hp
        unfold or2 cmpN at hp
        repeat' split at hp
        all_goals omega
      rcases ha with ⟨h1, h2⟩ | ⟨h1, h2⟩ <;> rcases hb with ⟨h3, h4⟩ | ⟨h3, h4⟩ <;> rw [h2, h4] <;> omega
def cnt (l : List ByteArray) (x : ByteArray) : Nat := l.countP fun y => decide (y = x)
theorem cnt_take {l : List ByteArray} {x y : ByteArray} {k : Nat} (h : l[k]? = some y) : cnt (l.take (k + 1)) x = cnt (l.take k) x + (if y = x then 1 else 0) := by
  obtain ⟨hk, rfl⟩ := List.getElem?_eq_some_iff.1 h
  unfold cnt
  rw [List.take_succ_eq_append_getElem hk, List.countP_append]
  simp [List.countP_cons]
theorem cnt_le (l : List ByteArray) (x : ByteArray) : cnt l x ≤ l.length := List.countP_le_length
theorem cnt_stable {L : List (List ByteArray)} {l ys : List ByteArray} (h : StableOf (cmpB L) l ys) (x : ByteArray) : cnt ys x = cnt l x := h.perm.countP_eq _
theorem pair_at {L : List (List ByteArray)} {l ys : List ByteArray} (h : StableOf (cmpB L) l ys) {i j : Nat} {x y : ByteArray} (hij : i < j) (hx : ys[i]? = some x) (hy : ys[j]? = some y) : cmpB L x y ≤ 0 := by
  obtain ⟨h1, rfl⟩ := List.getElem?_eq_some_iff.1 hx
  obtain ⟨h2, rfl⟩ := List.getElem?_eq_some_iff.1 hy
  exact List.pairwise_iff_getElem.1 h.sorted i j h1 h2 hij
theorem beq_bytes (y x : ByteArray) : (y.toList == x.toList) = decide (y = x) := by
  rw [Bool.eq_iff_iff, beq_iff_eq, decide_eq_true_iff]
  refine ⟨fun h => ?_, fun h => by rw [h]⟩
  rw [Lib.toList_data, Lib.toList_data] at h
  exact ba_ext h
theorem empty_nil {x : ByteArray} : x.toList.isEmpty = true ↔ x.data.toList = [] := by
  rw [Lib.toList_data, List.isEmpty_iff]
end Go.Proofs.Ytgbhpmbkhhbifaa
