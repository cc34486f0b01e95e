/-
  PLAIN LAW: in a right alphabet the section of the first variant of a letter is the letter. No program in sight.
-/
import Derived.Test.YtgbhpmbkhhbifaaLetLaw
set_option linter.unusedVariables false
set_option linter.unusedSimpArgs false
namespace Go.Proofs.Ytgbhpmbkhhbifaa
open Col

theorem right_letters {S : List (ByteArray × Int)} {nm : ByteArray} {U : List (ByteArray × List Int)} {L : List (List ByteArray)} (h : rightB S nm U L = true) :
    ∀ i, i < L.length → (L.getD i []).length ≠ 0 ∧ ∀ k, k < (L.getD i []).length → 1 ≤ (vari L i k).data.toList.length ∧ vari L i k ∉ seenAt L i k := by
  unfold rightB at h
  rw [Bool.and_eq_true, Bool.and_eq_true] at h
  have h2 := h.2.2
  unfold ok17 at h2
  rw [Bool.and_eq_true, Bool.and_eq_true, Bool.and_eq_true] at h2
  rw [Bool.and_eq_true] at h2
  intro i hi
  have h3 := Ok.allTo_iff.1 h2.2.2.2 i hi
  unfold okLetter at h3
  rw [Bool.and_eq_true] at h3
  refine ⟨by have := h3.1; simpa using this, fun k hk => ?_⟩
  have h4 := Ok.allTo_iff.1 h3.2 k hk
  unfold okVar at h4
  rw [Bool.and_eq_true] at h4
  refine ⟨?_, fun hm => ?_⟩
  · have := h4.1
    unfold Ok.label17B at this
    rw [Bool.and_eq_true] at this
    exact (Ok.labelB_pos this.2).1
  · have := h4.2
    rw [hasB_iff.2 hm] at this
    cases this
theorem ba_ext {a b : ByteArray} (h : a.data.toList = b.data.toList) : a = b := by
  cases a; cases b
  congr
  exact Array.toList_inj.1 h

theorem getD_at {l : List ByteArray} {k : Nat} {d : ByteArray} (h : k < l.length) : l.getD k d = l[k] := by simp [List.getD, h]
theorem stepF_short {s v : List UInt8} {acc : Acc} {i k : Nat} (h : acc.2.2.1 < s.length) (hv : v ≠ s) : (stepF s acc i k v).2.2.1 < s.length := by
  unfold stepF
  split
  · rename_i hh
    have hp := List.isPrefixOf_iff_prefix.1 hh.2
    have hle := hp.length_le
    by_cases he : v.length = s.length
    · exact absurd (hp.eq_of_length he) hv
    · simp only
      omega
  · exact h
theorem innerF_short {s : List UInt8} {l : List ByteArray} {i : Nat} {acc : Acc} (h : acc.2.2.1 < s.length) : ∀ k, (∀ j, j < k → (l.getD j default).data.toList ≠ s) → (innerF s l i acc k).2.2.1 < s.length
  | 0, _ => h
  | k + 1, hv => stepF_short (innerF_short h k fun j hj => hv j (by omega)) (hv k (by omega))
theorem outerF_short {s : List UInt8} {L : List (List ByteArray)} (h0 : 0 < s.length) : ∀ i, (∀ a b, a < i → b < (L.getD a []).length → ((L.getD a []).getD b default).data.toList ≠ s) → (outerF s L i).2.2.1 < s.length
  | 0, _ => h0
  | i + 1, hv => innerF_short (outerF_short h0 i fun a b ha hb => hv a b (by omega) hb) _ fun j hj => hv i j (by omega) hj
theorem stepF_full {s v : List UInt8} {acc : Acc} {i k : Nat} (h : acc.2.2.1 = s.length) : stepF s acc i k v = acc := by
  unfold stepF
  rw [if_neg]
  rintro ⟨h1, h2⟩
  have := (List.isPrefixOf_iff_prefix.1 h2).length_le
  omega
theorem innerF_full {s : List UInt8} {l : List ByteArray} {i : Nat} {acc : Acc} (h : acc.2.2.1 = s.length) : ∀ k, innerF s l i acc k = acc
  | 0 => rfl
  | k + 1 => by
    rw [innerF, innerF_full h k]
    exact stepF_full h
theorem innerF_hit {s : List UInt8} {l : List ByteArray} {i : Nat} {acc : Acc} {q : Nat} (h : (innerF s l i acc q).2.2.1 < s.length) (hv : (l.getD q default).data.toList = s) : ∀ k, q < k → innerF s l i acc k = (i, q, s.length, true)
  | 0, h0 => by omega
  | k + 1, h0 => by
    by_cases hq : q = k
    · subst hq
      rw [innerF, hv]
      unfold stepF
      rw [if_pos ⟨h, List.isPrefixOf_iff_prefix.2 (List.prefix_refl s)⟩]
    · rw [innerF, innerF_hit h hv k (by omega)]
      exact stepF_full rfl
theorem outerF_hit {s : List UInt8} {L : List (List ByteArray)} {i q : Nat} (h : outerF s L (i + 1) = (i, q, s.length, true)) : ∀ j, i < j → outerF s L j = (i, q, s.length, true)
  | 0, h0 => by omega
  | j + 1, h0 => by
    by_cases e : i = j
    · subst e; exact h
    · rw [outerF, outerF_hit h j (by omega)]
      exact innerF_full rfl _
/-- A variant of a right alphabet is read as itself. -/
theorem first_self {S : List (ByteArray × Int)} {nm : ByteArray} {U : List (ByteArray × List Int)} {L : List (List ByteArray)} (h : rightB S nm U L = true) {i q : Nat} (hi : i < L.length) (hq : q < (L.getD i []).length) :
    firstF L (vari L i q).data.toList = (i, q, (vari L i q).data.toList.length, true) := by
  obtain ⟨_, hvs⟩ := right_letters h i hi
  obtain ⟨hp, hnot⟩ := hvs q hq
  have hd : ∀ (l : List ByteArray) k, k < l.length → l.getD k default = l.getD k ⟨#[]⟩ := fun l k hk => by simp [List.getD, hk]
  unfold firstF
  refine outerF_hit (i := i) (q := q) ?_ L.length hi
  rw [outerF]
  refine innerF_hit ?_ (by rw [hd _ _ hq]; rfl) _ hq
  refine innerF_short (outerF_short hp i ?_) q ?_
  · intro a b ha hb heq
    refine hnot ?_
    rw [hd _ _ hb] at heq
    have e : (L.getD a []).getD b ⟨#[]⟩ = vari L i q := ba_ext heq
    unfold seenAt
    refine List.mem_append_left _ (List.mem_flatten.2 ⟨L.getD a [], ?_, ?_⟩)
    · rw [List.mem_take_iff_getElem]
      exact ⟨a, by omega, by simp [List.getD, (by omega : a < L.length)]⟩
    · rw [← e, getD_at hb]
      exact List.getElem_mem hb
  · intro j hj heq
    refine hnot ?_
    rw [hd _ _ (by omega)] at heq
    have e : (L.getD i []).getD j ⟨#[]⟩ = vari L i q := ba_ext heq
    unfold seenAt
    refine List.mem_append_right _ ?_
    rw [← e, List.mem_take_iff_getElem]
    exact ⟨j, by omega, (getD_at (by omega)).symm⟩
theorem section_head {S : List (ByteArray × Int)} {nm : ByteArray} {U : List (ByteArray × List Int)} {L : List (List ByteArray)} (h : rightB S nm U L = true) {i : Nat} (hi : i < L.length) :
    section_ L (headOf L (i : Int)).data.toList = (i : Int) := by
  obtain ⟨h0, hvs⟩ := right_letters h i hi
  have e : headOf L (i : Int) = vari L i 0 := by
    unfold headOf vari
    rw [if_pos ⟨by omega, by omega⟩, Int.toNat_natCast]
    cases L.getD i [] <;> rfl
  rw [e]
  refine section_yes ?_ (first_self h hi (by omega))
  intro hn
  have := (hvs 0 (by omega)).1
  rw [hn] at this
  simp at this
theorem right_full {S : List (ByteArray × Int)} {nm : ByteArray} {U : List (ByteArray × List Int)} {L : List (List ByteArray)} (h : rightB S nm U L = true) : ∀ l, l ∈ L → l ≠ [] := by
  intro l hl
  obtain ⟨i, hi⟩ := List.getElem?_of_mem hl
  have hil := (List.getElem?_eq_some_iff.1 hi).1
  have := (right_letters h i hil).1
  rw [List.getD, hi] at this
  intro e
  subst e
  simp at this
end Go.Proofs.Ytgbhpmbkhhbifaa
