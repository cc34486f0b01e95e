/-
  PLAIN LAW: comparisons of which the sign alone counts: total orders. No program in sight.
-/
set_option linter.unusedVariables false
set_option linter.unusedSimpArgs false
namespace Go.Proofs.YtacfeabdeaikhaaDoor.Col

/-- A comparison whose sign orders. -/
structure IsCmp {α : Type} (c : α → α → Int) : Prop where
  anti : ∀ x y, c y x = - c x y
  trans : ∀ x y z, c x y ≤ 0 → c y z ≤ 0 → c x z ≤ 0 ∧ (c x z = 0 → c x y = 0 ∧ c y z = 0)
theorem IsCmp.self {α : Type} {c : α → α → Int} (h : IsCmp c) (x : α) : c x x = 0 := by have := h.anti x x; omega
theorem IsCmp.comap {α β : Type} {c : α → α → Int} (h : IsCmp c) (f : β → α) : IsCmp (fun x y => c (f x) (f y)) := ⟨fun _ _ => h.anti _ _, fun _ _ _ => h.trans _ _ _⟩
theorem IsCmp.diff {α : Type} (f : α → Int) : IsCmp (fun x y => f x - f y) := ⟨fun _ _ => by omega, fun _ _ _ => by omega⟩
end Go.Proofs.YtacfeabdeaikhaaDoor.Col
