/-
  PLAIN LAW of the chapter on collation: what the functions compute, over lists. No program in sight.
-/
set_option linter.unusedVariables false
set_option linter.unusedSimpArgs false
namespace Go.Proofs.Ytgbhpmbkhhbifaa.Col

def preB (v s : List UInt8) : Bool := v.isPrefixOf s
abbrev Acc := Nat × Nat × Nat × Bool
def stepF (s : List UInt8) (acc : Acc) (i k : Nat) (v : List UInt8) : Acc := if acc.2.2.1 < v.length ∧ preB v s = true then (i, k, v.length, true) else acc
def innerF (s : List UInt8) (l : List ByteArray) (i : Nat) (acc : Acc) : Nat → Acc
  | 0 => acc
  | k + 1 => stepF s (innerF s l i acc k) i k (l.getD k default).data.toList
def outerF (s : List UInt8) (L : List (List ByteArray)) : Nat → Acc
  | 0 => (0, 0, 0, false)
  | i + 1 => innerF s (L.getD i []) i (outerF s L i) (L.getD i []).length
def firstF (L : List (List ByteArray)) (s : List UInt8) : Acc := outerF s L L.length

theorem size_list (v : ByteArray) : v.data.toList.length = v.size := by
  simp only [Array.length_toList]
  rfl
theorem inner_hit {s : List UInt8} {l : List ByteArray} {i k a b m : Nat} {o : Bool} {acc : Acc} {v : ByteArray} (h : innerF s l i acc k = (a, b, m, o)) (hv : l[k]? = some v)
    (h1 : m < v.size) (h2 : preB v.data.toList s = true) : innerF s l i acc (k + 1) = (i, k, v.size, true) := by
  rw [innerF, h, List.getD, hv]
  simp only [stepF, Option.getD_some, size_list]
  rw [if_pos ⟨h1, h2⟩]
theorem inner_miss {s : List UInt8} {l : List ByteArray} {i k a b m : Nat} {o : Bool} {acc : Acc} {v : ByteArray} (h : innerF s l i acc k = (a, b, m, o)) (hv : l[k]? = some v)
    (h1 : m < v.size → preB v.data.toList s = false) : innerF s l i acc (k + 1) = (a, b, m, o) := by
  rw [innerF, h, List.getD, hv]
  simp only [stepF, Option.getD_some, size_list]
  rw [if_neg (fun ⟨x, y⟩ => by rw [h1 x] at y; cases y)]
theorem outer_next {s : List UInt8} {L : List (List ByteArray)} {i : Nat} {l : List ByteArray} {r : Acc} (hl : L[i]? = some l) (h : innerF s l i (outerF s L i) l.length = r) :
    outerF s L (i + 1) = r := by
  rw [outerF, List.getD, hl]
  exact h

/-- What is taken off: the primary and the secondary key, whether it is a letter, and how many bytes. -/
def take1 (L : List (List ByteArray)) (s : List UInt8) : Nat × Nat × Bool × Nat :=
  match firstF L s with
  | (a, b, m, true) => (a, b, true, m)
  | (_, _, _, false) => (L.length + (s.headD 0).toNat, 0, false, 1)
def lettersN (L : List (List ByteArray)) : Nat → List UInt8 → List (Nat × Nat × Bool)
  | 0, _ => []
  | f + 1, s => if s = [] then [] else ((take1 L s).1, (take1 L s).2.1, (take1 L s).2.2.1) :: lettersN L f (s.drop (take1 L s).2.2.2)
def letters (L : List (List ByteArray)) (s : List UInt8) : List (Nat × Nat × Bool) := lettersN L s.length s

theorem stepF_pos (s : List UInt8) (acc : Acc) (i k : Nat) (v : List UInt8) (h : acc.2.2.2 = true → 1 ≤ acc.2.2.1) : (stepF s acc i k v).2.2.2 = true → 1 ≤ (stepF s acc i k v).2.2.1 := by
  unfold stepF
  split
  · rename_i hh
    intro _
    simp only
    omega
  · exact h
theorem innerF_pos (s : List UInt8) (l : List ByteArray) (i : Nat) (acc : Acc) (h : acc.2.2.2 = true → 1 ≤ acc.2.2.1) : ∀ k, (innerF s l i acc k).2.2.2 = true → 1 ≤ (innerF s l i acc k).2.2.1
  | 0 => h
  | k + 1 => stepF_pos s _ i k _ (innerF_pos s l i acc h k)
theorem outerF_pos (s : List UInt8) (L : List (List ByteArray)) : ∀ i, (outerF s L i).2.2.2 = true → 1 ≤ (outerF s L i).2.2.1
  | 0 => by simp [outerF]
  | i + 1 => innerF_pos s _ i _ (outerF_pos s L i) _
theorem take1_true {L : List (List ByteArray)} {s : List UInt8} {a b m : Nat} (h : firstF L s = (a, b, m, true)) : take1 L s = (a, b, true, m) := by
  unfold take1
  rw [h]
theorem take1_false {L : List (List ByteArray)} {s : List UInt8} {a b m : Nat} (h : firstF L s = (a, b, m, false)) : take1 L s = (L.length + (s.headD 0).toNat, 0, false, 1) := by
  unfold take1
  rw [h]
theorem take1_pos (L : List (List ByteArray)) (s : List UInt8) : 1 ≤ (take1 L s).2.2.2 := by
  unfold take1
  have := outerF_pos s L L.length
  unfold firstF
  generalize outerF s L L.length = r at this
  obtain ⟨a, b, m, o⟩ := r
  cases o with
  | false => simp
  | true => simpa using this
theorem stepF_le (s : List UInt8) (acc : Acc) (i k : Nat) (v : List UInt8) (h : acc.2.2.1 ≤ s.length) : (stepF s acc i k v).2.2.1 ≤ s.length := by
  unfold stepF
  split
  · rename_i hh
    exact (List.isPrefixOf_iff_prefix.1 hh.2).length_le
  · exact h
theorem innerF_le (s : List UInt8) (l : List ByteArray) (i : Nat) (acc : Acc) (h : acc.2.2.1 ≤ s.length) : ∀ k, (innerF s l i acc k).2.2.1 ≤ s.length
  | 0 => h
  | k + 1 => stepF_le s _ i k _ (innerF_le s l i acc h k)
theorem outerF_le (s : List UInt8) (L : List (List ByteArray)) : ∀ i, (outerF s L i).2.2.1 ≤ s.length
  | 0 => Nat.zero_le _
  | i + 1 => innerF_le s _ i _ (outerF_le s L i) _
theorem take1_le (L : List (List ByteArray)) (s : List UInt8) (h : s ≠ []) : (take1 L s).2.2.2 ≤ s.length := by
  unfold take1
  have := outerF_le s L L.length
  unfold firstF
  generalize outerF s L L.length = r at this
  obtain ⟨a, b, m, o⟩ := r
  cases o with
  | false => simp; exact List.length_pos_iff.2 h
  | true => simpa using this
theorem lettersN_enough (L : List (List ByteArray)) : ∀ (f g : Nat) (s : List UInt8), s.length ≤ f → s.length ≤ g → lettersN L f s = lettersN L g s := by
  intro f
  induction f with
  | zero =>
    intro g s hf hg
    have : s = [] := List.eq_nil_of_length_eq_zero (by omega)
    subst this
    cases g <;> simp [lettersN]
  | succ f ih =>
    intro g s hf hg
    cases g with
    | zero =>
      have : s = [] := List.eq_nil_of_length_eq_zero (by omega)
      subst this
      simp [lettersN]
    | succ g =>
      simp only [lettersN]
      by_cases hs : s = []
      · simp [hs]
      · have h1 := take1_pos L s
        rw [if_neg hs, if_neg hs, ih g _ (by rw [List.length_drop]; omega) (by rw [List.length_drop]; omega)]
theorem letters_nil (L : List (List ByteArray)) : letters L [] = [] := rfl
theorem letters_cons (L : List (List ByteArray)) (s : List UInt8) (h : s ≠ []) : letters L s = ((take1 L s).1, (take1 L s).2.1, (take1 L s).2.2.1) :: letters L (s.drop (take1 L s).2.2.2) := by
  have h0 : 0 < s.length := List.length_pos_iff.2 h
  obtain ⟨n, hn⟩ : ∃ n, s.length = n + 1 := ⟨s.length - 1, by omega⟩
  have h1 := take1_pos L s
  show lettersN L s.length s = _
  rw [hn, lettersN, if_neg h]
  congr 1
  exact lettersN_enough L _ _ _ (by rw [List.length_drop]; omega) (Nat.le_refl _)
theorem letters_length (L : List (List ByteArray)) : ∀ (n : Nat) (s : List UInt8), s.length ≤ n → (letters L s).length ≤ s.length := by
  intro n
  induction n with
  | zero =>
    intro s hs
    have : s = [] := List.eq_nil_of_length_eq_zero (by omega)
    subst this
    simp [letters_nil]
  | succ n ih =>
    intro s hs
    by_cases h : s = []
    · subst h; simp [letters_nil]
    · have h1 := take1_pos L s
      have h2 := take1_le L s h
      rw [letters_cons L s h, List.length_cons]
      have := ih (s.drop (take1 L s).2.2.2) (by rw [List.length_drop]; omega)
      rw [List.length_drop] at this
      omega
end Go.Proofs.Ytgbhpmbkhhbifaa.Col
namespace Go.Proofs.Ytgbhpmbkhhbifaa.Col

def section_ (L : List (List ByteArray)) (s : List UInt8) : Int :=
  match s with
  | [] => -1
  | _ :: _ => if (firstF L s).2.2.2 = true then ((firstF L s).1 : Int) else -1
theorem section_nil (L : List (List ByteArray)) : section_ L [] = -1 := rfl
theorem section_yes {L : List (List ByteArray)} {s : List UInt8} {a b m : Nat} (hs : s ≠ []) (h : firstF L s = (a, b, m, true)) : section_ L s = a := by
  cases s with
  | nil => exact absurd rfl hs
  | cons x l => simp [section_, h]
theorem section_no {L : List (List ByteArray)} {s : List UInt8} {a b m : Nat} (hs : s ≠ []) (h : firstF L s = (a, b, m, false)) : section_ L s = -1 := by
  cases s with
  | nil => exact absurd rfl hs
  | cons x l => simp [section_, h]

theorem stepF_lt (s : List UInt8) (acc : Acc) (i k : Nat) (v : List UInt8) (n : Nat) (hi : i < n) (h : acc.2.2.2 = true → acc.1 < n) : (stepF s acc i k v).2.2.2 = true → (stepF s acc i k v).1 < n := by
  unfold stepF
  split
  · intro _; exact hi
  · exact h
theorem innerF_lt (s : List UInt8) (l : List ByteArray) (i : Nat) (acc : Acc) (n : Nat) (hi : i < n) (h : acc.2.2.2 = true → acc.1 < n) : ∀ k, (innerF s l i acc k).2.2.2 = true → (innerF s l i acc k).1 < n
  | 0 => h
  | k + 1 => stepF_lt s _ i k _ n hi (innerF_lt s l i acc n hi h k)
theorem outerF_lt (s : List UInt8) (L : List (List ByteArray)) : ∀ i, i ≤ L.length → (outerF s L i).2.2.2 = true → (outerF s L i).1 < L.length
  | 0, _ => by simp [outerF]
  | i + 1, h => innerF_lt s _ i _ _ (by omega) (outerF_lt s L i (by omega)) _
theorem firstF_lt {L : List (List ByteArray)} {s : List UInt8} {a b m : Nat} (h : firstF L s = (a, b, m, true)) : a < L.length := by
  have := outerF_lt s L L.length (Nat.le_refl _)
  unfold firstF at h
  rw [h] at this
  exact this rfl

/-- The reference's section: of the first key. -/
def refSection (L : List (List ByteArray)) (d : List (Nat × Nat × Bool)) : Int :=
  match d with
  | [] => -1
  | x :: _ => if L.length ≤ x.1 then -1 else (x.1 : Int)
theorem refSection_eq (L : List (List ByteArray)) (s : List UInt8) : refSection L (letters L s) = section_ L s := by
  by_cases hs : s = []
  · subst hs; rfl
  · rw [letters_cons L s hs]
    obtain ⟨⟨a, b, m, o⟩, hf⟩ : ∃ x, firstF L s = x := ⟨_, rfl⟩
    cases o with
    | true =>
      rw [section_yes hs hf, take1_true hf]
      have := firstF_lt hf
      simp only [refSection]
      rw [if_neg (by omega)]
    | false =>
      rw [section_no hs hf, take1_false hf]
      simp [refSection]
end Go.Proofs.Ytgbhpmbkhhbifaa.Col
namespace Go.Proofs.Ytgbhpmbkhhbifaa.Col
def headOf (L : List (List ByteArray)) (i : Int) : ByteArray := if 0 ≤ i ∧ i < (L.length : Int) then (L.getD i.toNat []).headD ⟨#[]⟩ else ⟨#[]⟩
theorem headOf_out {L : List (List ByteArray)} {i : Int} (h : ¬ (0 ≤ i ∧ i < (L.length : Int))) : headOf L i = ⟨#[]⟩ := if_neg h
theorem headOf_in {L : List (List ByteArray)} {k : Nat} {l : List ByteArray} (h : L[k]? = some l) : headOf L (k : Int) = l.headD ⟨#[]⟩ := by
  have hk : k < L.length := (List.getElem?_eq_some_iff.1 h).1
  unfold headOf
  rw [if_pos ⟨by omega, by omega⟩, List.getD, Int.toNat_natCast, h]
  rfl
end Go.Proofs.Ytgbhpmbkhhbifaa.Col
