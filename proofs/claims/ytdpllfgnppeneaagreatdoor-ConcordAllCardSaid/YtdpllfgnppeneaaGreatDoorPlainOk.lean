import Derived.Test.YtdpllfgnppeneaaGreatDoorG01
set_option linter.unusedVariables false
/-
  PLAIN LAW: what it is to be right (labels, names, inventories, orthographies). No program in sight.
-/
namespace Go.Proofs.YtdpllfgnppeneaaGreatDoor.Ok

/-- f holds below n. -/
def allTo (f : Nat → Bool) : Nat → Bool
  | 0 => true
  | k + 1 => allTo f k && f k
theorem allTo_iff {f : Nat → Bool} : ∀ {n : Nat}, allTo f n = true ↔ ∀ i, i < n → f i = true
  | 0 => by simp [allTo]
  | n + 1 => by
    simp only [allTo, Bool.and_eq_true, allTo_iff (n := n)]
    constructor
    · intro ⟨h1, h2⟩ i hi
      by_cases e : i = n
      · subst e; exact h2
      · exact h1 i (by omega)
    · intro h
      exact ⟨fun i hi => h i (by omega), h n (by omega)⟩
theorem allTo_next {f : Nat → Bool} {k : Nat} (h : allTo f k = true) (hk : f k = true) : allTo f (k + 1) = true := by simp [allTo, h, hk]
theorem allTo_false {f : Nat → Bool} {k n : Nat} (hk : k < n) (h : f k = false) : allTo f n = false := by
  cases hh : allTo f n with
  | false => rfl
  | true => rw [allTo_iff.1 hh k hk] at h; cases h

def okByte (b : UInt8) : Bool := !(decide (b.toNat < 32)) && !(decide (b.toNat = 127))
def labelB (s : List UInt8) : Bool := allTo (fun i => okByte (s.getD i 0)) s.length && ((Ru.points s).isSome && decide (1 ≤ s.length) && decide (s.length ≤ 32))
def label17B (s : List UInt8) : Bool := allTo (fun i => !decide ((s.getD i 0).toNat = 32)) s.length && labelB s
def smallB (b : UInt8) : Bool := decide (97 ≤ b.toNat) && decide (b.toNat ≤ 122)
def innerB (b : UInt8) : Bool := decide (b.toNat = 45) || decide (b.toNat = 95) || (decide (48 ≤ b.toNat) && decide (b.toNat ≤ 57))
def nameB (s : List UInt8) : Bool := allTo (fun i => smallB (s.getD i 0) || (!decide (i = 0) && innerB (s.getD i 0))) s.length && (decide (1 ≤ s.length) && decide (s.length ≤ 32))
theorem labelB_pos {s : List UInt8} (h : labelB s = true) : 1 ≤ s.length ∧ s.length ≤ 32 := by
  simp only [labelB, Bool.and_eq_true, decide_eq_true_eq] at h
  omega
end Go.Proofs.YtdpllfgnppeneaaGreatDoor.Ok
