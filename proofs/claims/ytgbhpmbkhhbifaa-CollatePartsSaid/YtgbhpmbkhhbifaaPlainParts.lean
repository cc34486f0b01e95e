/-
  PLAIN LAW: the variants and bytes that the keys of a string name are the string. No program in sight.
-/
import Derived.Test.YtgbhpmbkhhbifaaPlainHeads
set_option linter.unusedVariables false
set_option linter.unusedSimpArgs false
namespace Go.Proofs.Ytgbhpmbkhhbifaa
open Col

def piece (L : List (List ByteArray)) (x : Nat × Nat × Bool) : List UInt8 := if x.2.2 = true then (vari L x.1 x.2.1).data.toList else [UInt8.ofNat (x.1 - L.length)]
def PartOk (L : List (List ByteArray)) (x : Nat × Nat × Bool) : Prop :=
  (x.2.2 = true → x.1 < L.length ∧ x.2.1 < (L.getD x.1 []).length) ∧ (x.2.2 = false → L.length ≤ x.1 ∧ x.1 - L.length ≤ 255 ∧ x.2.1 = 0)
def GoodF (L : List (List ByteArray)) (s : List UInt8) (acc : Acc) : Prop :=
  acc.2.2.2 = true → acc.1 < L.length ∧ acc.2.1 < (L.getD acc.1 []).length ∧ acc.2.2.1 = (vari L acc.1 acc.2.1).data.toList.length ∧ preB (vari L acc.1 acc.2.1).data.toList s = true
theorem stepF_good {L : List (List ByteArray)} {s : List UInt8} {acc : Acc} {i k : Nat} (hi : i < L.length) (hk : k < (L.getD i []).length) (h : GoodF L s acc) : GoodF L s (stepF s acc i k ((L.getD i []).getD k default).data.toList) := by
  have e : (L.getD i []).getD k default = vari L i k := by
    unfold vari
    rw [getD_at hk, getD_at hk]
  rw [e]
  unfold stepF
  split
  · rename_i hh
    intro _
    exact ⟨hi, hk, rfl, hh.2⟩
  · exact h
theorem innerF_good {L : List (List ByteArray)} {s : List UInt8} {acc : Acc} {i : Nat} (hi : i < L.length) (h : GoodF L s acc) : ∀ k, k ≤ (L.getD i []).length → GoodF L s (innerF s (L.getD i []) i acc k)
  | 0, _ => h
  | k + 1, hk => stepF_good hi (by omega) (innerF_good hi h k (by omega))
theorem outerF_good {L : List (List ByteArray)} {s : List UInt8} : ∀ i, i ≤ L.length → GoodF L s (outerF s L i)
  | 0, _ => fun h => by cases h
  | i + 1, hi => innerF_good (by omega) (outerF_good i (by omega)) _ (Nat.le_refl _)
theorem parts_all (L : List (List ByteArray)) : ∀ (n : Nat) (s : List UInt8), s.length ≤ n → (letters L s).flatMap (piece L) = s ∧ ∀ x, x ∈ letters L s → PartOk L x := by
  intro n
  induction n with
  | zero =>
    intro s hs
    have : s = [] := List.eq_nil_of_length_eq_zero (by omega)
    subst this
    rw [letters_nil]
    exact ⟨rfl, fun x hx => by cases hx⟩
  | succ n ih =>
    intro s hs
    by_cases h : s = []
    · subst h
      rw [letters_nil]
      exact ⟨rfl, fun x hx => by cases hx⟩
    · have h1 := take1_pos L s
      obtain ⟨ih1, ih2⟩ := ih (s.drop (take1 L s).2.2.2) (by rw [List.length_drop]; omega)
      rw [letters_cons L s h, List.flatMap_cons, ih1]
      obtain ⟨⟨a, b, m, o⟩, hf⟩ : ∃ x, firstF L s = x := ⟨_, rfl⟩
      cases o with
      | true =>
        have hg := outerF_good (s := s) L.length (Nat.le_refl _)
        unfold firstF at hf
        rw [hf] at hg
        obtain ⟨g1, g2, g3, g4⟩ := hg rfl
        have ht := take1_true (L := L) (s := s) hf
        rw [ht] at ih2 ⊢
        refine ⟨?_, fun x hx => ?_⟩
        · simp only [piece, if_true]
          obtain ⟨t, e⟩ := List.isPrefixOf_iff_prefix.1 g4
          simp only at g3 e
          rw [g3]
          conv => lhs; rw [← e]
          rw [List.drop_left, e]
        · rcases List.mem_cons.1 hx with rfl | hx
          · exact ⟨fun _ => ⟨g1, g2⟩, fun h => by cases h⟩
          · exact ih2 x hx
      | false =>
        have ht := take1_false (L := L) (s := s) hf
        rw [ht] at ih2 ⊢
        cases s with
        | nil => exact absurd rfl h
        | cons c r =>
          have hc : c.toNat < 256 := c.toNat_lt
          refine ⟨?_, fun x hx => ?_⟩
          · simp [piece]
          · rcases List.mem_cons.1 hx with rfl | hx
            · refine ⟨(fun h => by cases h), fun _ => ⟨?_, ?_, rfl⟩⟩
              · simp
              · simp only [List.headD_cons]; omega
            · exact ih2 x hx
theorem flat_take {L : List (List ByteArray)} {d : List (Nat × Nat × Bool)} {k : Nat} {x : Nat × Nat × Bool} (hx : d[k]? = some x) : (d.take (k + 1)).flatMap (piece L) = (d.take k).flatMap (piece L) ++ piece L x := by
  obtain ⟨hk, rfl⟩ := List.getElem?_eq_some_iff.1 hx
  rw [List.take_succ_eq_append_getElem hk, List.flatMap_append]
  simp
theorem all_take {d : List (Nat × Nat × Bool)} {k : Nat} {x : Nat × Nat × Bool} (hx : d[k]? = some x) : allL (d.take (k + 1)) = (allL (d.take k) && x.2.2) := by
  obtain ⟨hk, rfl⟩ := List.getElem?_eq_some_iff.1 hx
  unfold allL
  rw [List.take_succ_eq_append_getElem hk, List.all_append]
  simp
theorem flat_le {L : List (List ByteArray)} {d : List (Nat × Nat × Bool)} (k : Nat) : ((d.take k).flatMap (piece L)).length ≤ (d.flatMap (piece L)).length := by
  have : d.flatMap (piece L) = (d.take k).flatMap (piece L) ++ (d.drop k).flatMap (piece L) := by rw [← List.flatMap_append, List.take_append_drop]
  rw [this, List.length_append]
  omega
end Go.Proofs.Ytgbhpmbkhhbifaa
