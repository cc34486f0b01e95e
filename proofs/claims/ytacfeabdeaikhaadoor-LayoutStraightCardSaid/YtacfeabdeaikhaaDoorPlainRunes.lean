/-
  PLAIN LAW of the chapter on runes: scalars, their encodings, the points of a string. No program in sight.
-/
set_option linter.unusedVariables false
set_option linter.unusedSimpArgs false
namespace Go.Proofs.YtacfeabdeaikhaaDoor.Ru

def scalarB (p : Int) : Bool := decide (0 ≤ p) && decide (p ≤ 1114111) && (decide (p < 55296) || decide (57343 < p))
/-- The bytes of a scalar's encoding, as numbers. -/
def encI (p : Int) : List Int :=
  if p < 128 then [p]
  else if p < 2048 then [192 + p / 64, 128 + p % 64]
  else if p < 65536 then [224 + p / 4096, 128 + p / 64 % 64, 128 + p % 64]
  else [240 + p / 262144, 128 + p / 4096 % 64, 128 + p / 64 % 64, 128 + p % 64]
def encL (p : Int) : List UInt8 := (encI p).map fun v => UInt8.ofNat v.toNat
theorem encI_range {p : Int} (h0 : 0 ≤ p) (h1 : p ≤ 1114111) : ∀ v ∈ encI p, 0 ≤ v ∧ v < 256 := by
  intro v hv
  unfold encI at hv
  split at hv
  · simp at hv; omega
  · split at hv
    · simp at hv; omega
    · split at hv
      · simp at hv; omega
      · simp at hv; omega
/-- What the first byte says: the bits that it brings, and the number of bytes. -/
def lead (b : Nat) : Nat × Nat := if 240 ≤ b then (b - 240, 4) else if 224 ≤ b then (b - 224, 3) else if 192 ≤ b then (b - 192, 2) else (b, 1)
/-- The bits of the bytes that follow. -/
def cont (p : Nat) (l : List UInt8) : Nat := l.foldl (fun p b => p * 64 + b.toNat % 64) p
/-- The scalar at the beginning of l, and the number of its bytes. -/
def firstL (l : List UInt8) : Option (Nat × Nat) :=
  match l with
  | [] => none
  | b :: t =>
    let n := (lead b.toNat).2
    let p := cont (lead b.toNat).1 (t.take (n - 1))
    if n ≤ t.length + 1 ∧ scalarB p = true ∧ encL p = (b :: t).take n then some (p, n) else none
def pointsN : Nat → List UInt8 → Option (List Nat)
  | 0, _ => some []
  | f + 1, l =>
    match l with
    | [] => some []
    | b :: t =>
      match firstL (b :: t) with
      | none => none
      | some (p, n) => (pointsN f ((b :: t).drop n)).map (p :: ·)
def points (l : List UInt8) : Option (List Nat) := pointsN l.length l
theorem lead_pos (b : Nat) : 1 ≤ (lead b).2 ∧ (lead b).2 ≤ 4 := by
  unfold lead; split
  · simp
  · split
    · simp
    · split <;> simp
theorem lead_lt {b : Nat} (h : b < 256) : (lead b).1 < 256 := by
  unfold lead; split
  · simp; omega
  · split
    · simp; omega
    · split
      · simp; omega
      · simp; omega
theorem cont_snoc (p : Nat) (l : List UInt8) (b : UInt8) : cont p (l ++ [b]) = cont p l * 64 + b.toNat % 64 := by simp [cont]
theorem cont_lt (p : Nat) : ∀ (l : List UInt8), cont p l < (p + 1) * 64 ^ l.length := by
  intro l
  induction l generalizing p with
  | nil => simp [cont]
  | cons b t ih =>
    have := ih (p * 64 + b.toNat % 64)
    show cont (p * 64 + b.toNat % 64) t < _
    have h2 : b.toNat % 64 < 64 := Nat.mod_lt _ (by omega)
    refine Nat.lt_of_lt_of_le this ?_
    rw [List.length_cons, Nat.pow_succ, Nat.mul_comm (64 ^ t.length) 64, ← Nat.mul_assoc]
    exact Nat.mul_le_mul_right _ (by omega)
theorem firstL_some {l : List UInt8} {p n : Nat} (h : firstL l = some (p, n)) : 1 ≤ n ∧ n ≤ 4 ∧ n ≤ l.length ∧ scalarB p = true ∧ encL p = l.take n := by
  unfold firstL at h
  split at h
  · cases h
  · rename_i b t
    simp only at h
    split at h
    · rename_i hh
      injection h with h
      injection h with h1 h2
      subst h1 h2
      obtain ⟨x, y⟩ := lead_pos b.toNat
      exact ⟨x, y, by simpa using hh.1, hh.2.1, hh.2.2⟩
    · cases h
theorem pointsN_enough : ∀ (f g : Nat) (l : List UInt8), l.length ≤ f → l.length ≤ g → pointsN f l = pointsN g l := by
  intro f
  induction f with
  | zero =>
    intro g l hf hg
    have : l = [] := List.eq_nil_of_length_eq_zero (by omega)
    subst this
    cases g <;> simp [pointsN]
  | succ f ih =>
    intro g l hf hg
    cases l with
    | nil => cases g <;> simp [pointsN]
    | cons b t =>
      cases g with
      | zero => simp at hg
      | succ g =>
        simp only [pointsN]
        cases hfst : firstL (b :: t) with
        | none => rfl
        | some pn =>
          obtain ⟨p, n⟩ := pn
          have h1 := firstL_some hfst
          simp only
          rw [ih g _ (by rw [List.length_drop]; omega) (by rw [List.length_drop]; omega)]
theorem points_nil : points [] = some [] := rfl
theorem points_none {l : List UInt8} (hl : l ≠ []) (h : firstL l = none) : points l = none := by
  cases l with
  | nil => exact absurd rfl hl
  | cons b t =>
    show pointsN (t.length + 1) (b :: t) = none
    simp only [pointsN, h]
theorem points_some {l : List UInt8} {p n : Nat} (h : firstL l = some (p, n)) : points l = (points (l.drop n)).map (p :: ·) := by
  cases l with
  | nil => simp [firstL] at h
  | cons b t =>
    have h1 := firstL_some h
    show pointsN (t.length + 1) (b :: t) = _
    simp only [pointsN, h]
    rw [pointsN_enough t.length ((b :: t).drop n).length _ (by rw [List.length_drop]; simp; omega) (Nat.le_refl _)]
    rfl
theorem points_length : ∀ (f : Nat) (l : List UInt8) (d : List Nat), l.length ≤ f → points l = some d → d.length ≤ l.length := by
  intro f
  induction f with
  | zero =>
    intro l d hl h
    have : l = [] := List.eq_nil_of_length_eq_zero (by omega)
    subst this
    rw [points_nil] at h
    cases h; simp
  | succ f ih =>
    intro l d hl h
    by_cases h0 : l = []
    · subst h0
      rw [points_nil] at h
      cases h; simp
    · cases hf : firstL l with
      | none => rw [points_none h0 hf] at h; cases h
      | some pn =>
        obtain ⟨p, n⟩ := pn
        rw [points_some hf] at h
        obtain ⟨h1, _, h3, _⟩ := firstL_some hf
        cases hp : points (l.drop n) with
        | none => rw [hp] at h; cases h
        | some d' =>
          rw [hp] at h
          cases h
          have := ih (l.drop n) d' (by rw [List.length_drop]; omega) hp
          rw [List.length_drop] at this
          simp; omega
end Go.Proofs.YtacfeabdeaikhaaDoor.Ru
