import Derived.Test.YtgbhpmbkhhbifaaPlainCol
/-
  PLAIN LAW: comparisons that are total orders. No program in sight.
-/
set_option linter.unusedVariables false
set_option linter.unusedSimpArgs false
namespace Go.Proofs.Ytgbhpmbkhhbifaa.Col

/-- A comparison: -1, 0 or 1; a total order. -/
structure IsCmp {α : Type} (c : α → α → Int) : Prop where
  range : ∀ x y, c x y = -1 ∨ c x y = 0 ∨ c x y = 1
  anti : ∀ x y, c y x = - c x y
  trans : ∀ x y z, c x y ≤ 0 → c y z ≤ 0 → c x z = min (c x y) (c y z)
theorem IsCmp.self {α : Type} {c : α → α → Int} (h : IsCmp c) (x : α) : c x x = 0 := by have := h.anti x x; omega
theorem IsCmp.comap {α β : Type} {c : α → α → Int} (h : IsCmp c) (f : β → α) : IsCmp (fun x y => c (f x) (f y)) := ⟨fun _ _ => h.range _ _, fun _ _ => h.anti _ _, fun _ _ _ => h.trans _ _ _⟩
def or2 (a b : Int) : Int := if a = 0 then b else a
theorem IsCmp.or {α : Type} {c d : α → α → Int} (hc : IsCmp c) (hd : IsCmp d) : IsCmp (fun x y => or2 (c x y) (d x y)) := by
  refine ⟨fun x y => ?_, fun x y => ?_, fun x y z => ?_⟩
  · unfold or2; split
    · exact hd.range x y
    · exact hc.range x y
  · have h1 := hc.anti x y; have h2 := hd.anti x y; unfold or2; split <;> split <;> omega
  · have h1 := hc.trans x y z; have h2 := hd.trans x y z
    have r1 := hc.range x y; have r2 := hc.range y z; have r3 := hd.range x y; have r4 := hd.range y z
    have t1 := hc.anti x y; have t2 := hc.anti y z; have t3 := hc.anti x z
    unfold or2
    intro a b
    by_cases e1 : c x y = 0
    · rw [if_pos e1] at a ⊢
      by_cases e2 : c y z = 0
      · rw [if_pos e2] at b ⊢
        have := h1 (by omega) (by omega)
        have h0 : c x z = 0 := by omega
        rw [if_pos h0]
        exact h2 a b
      · rw [if_neg e2] at b ⊢
        have := h1 (by omega) (by omega)
        rw [if_neg (by omega)]
        omega
    · rw [if_neg e1] at a ⊢
      by_cases e2 : c y z = 0
      · rw [if_pos e2] at b ⊢
        have := h1 (by omega) (by omega)
        rw [if_neg (by omega)]
        omega
      · rw [if_neg e2] at b ⊢
        have := h1 (by omega) (by omega)
        rw [if_neg (by omega)]
        omega

def cmpN (a b : Int) : Int := if a < b then -1 else if b < a then 1 else 0
theorem cmpN_is : IsCmp cmpN := by
  refine ⟨fun x y => ?_, fun x y => ?_, fun x y z => ?_⟩ <;> unfold cmpN <;> repeat' split
  all_goals first | omega | skip

def cmpI : List Int → List Int → Int
  | [], [] => 0
  | [], _ :: _ => -1
  | _ :: _, [] => 1
  | a :: l, b :: m => or2 (cmpN a b) (cmpI l m)
theorem cmpI_range : ∀ l m, cmpI l m = -1 ∨ cmpI l m = 0 ∨ cmpI l m = 1
  | [], [] => by simp [cmpI]
  | [], _ :: _ => by simp [cmpI]
  | _ :: _, [] => by simp [cmpI]
  | a :: l, b :: m => by
    have := cmpI_range l m
    have h := cmpN_is.range a b
    simp only [cmpI, or2]
    split <;> omega
theorem cmpI_anti : ∀ l m, cmpI m l = - cmpI l m
  | [], [] => by simp [cmpI]
  | [], _ :: _ => by simp [cmpI]
  | _ :: _, [] => by simp [cmpI]
  | a :: l, b :: m => by
    have := cmpI_anti l m
    have h := cmpN_is.anti a b
    simp only [cmpI, or2]
    split <;> split <;> omega
theorem cmpI_trans : ∀ l m n, cmpI l m ≤ 0 → cmpI m n ≤ 0 → cmpI l n = min (cmpI l m) (cmpI m n)
  | [], [], [] => by simp [cmpI]
  | [], [], _ :: _ => by simp [cmpI]; omega
  | [], _ :: _, [] => by simp [cmpI]
  | _ :: _, [], _ => by simp [cmpI]
  | _ :: _, _ :: _, [] => by simp [cmpI]
  | [], a :: l, b :: m => by
    have := cmpI_range (a :: l) (b :: m)
    intro _ h
    show (-1 : Int) = min (-1) (cmpI (a :: l) (b :: m))
    omega
  | a :: l, b :: m, e :: n => by
    have h1 := cmpN_is.trans a b e
    have h2 := cmpI_trans l m n
    have r1 := cmpN_is.range a b; have r2 := cmpN_is.range b e; have r3 := cmpI_range l m; have r4 := cmpI_range m n
    simp only [cmpI, or2]
    intro x y
    by_cases e1 : cmpN a b = 0
    · rw [if_pos e1] at x ⊢
      by_cases e2 : cmpN b e = 0
      · rw [if_pos e2] at y ⊢
        have := h1 (by omega) (by omega)
        rw [if_pos (by omega)]
        exact h2 x y
      · rw [if_neg e2] at y ⊢
        have := h1 (by omega) (by omega)
        rw [if_neg (by omega)]
        omega
    · rw [if_neg e1] at x ⊢
      by_cases e2 : cmpN b e = 0
      · rw [if_pos e2] at y ⊢
        have := h1 (by omega) (by omega)
        rw [if_neg (by omega)]
        omega
      · rw [if_neg e2] at y ⊢
        have := h1 (by omega) (by omega)
        rw [if_neg (by omega)]
        omega
theorem cmpI_is : IsCmp cmpI := ⟨cmpI_range, cmpI_anti, cmpI_trans⟩
theorem cmpN_zero {a b : Int} (h : cmpN a b = 0) : a = b := by
  unfold cmpN at h
  split at h
  · omega
  · split at h <;> omega
theorem cmpI_zero : ∀ l m, cmpI l m = 0 → l = m
  | [], [] => by simp
  | [], _ :: _ => by simp [cmpI]
  | _ :: _, [] => by simp [cmpI]
  | a :: l, b :: m => by
    simp only [cmpI, or2]
    split
    · rename_i h
      intro h2
      rw [cmpN_zero h, cmpI_zero l m h2]
    · intro h2; omega

theorem cmpI_at : ∀ {l m : List Int} {k : Nat} {x y : Int}, l.take k = m.take k → l[k]? = some x → m[k]? = some y → cmpN x y ≠ 0 → cmpI l m = cmpN x y
  | [], _, _, _, _, _, h, _, _ => by simp at h
  | _ :: _, [], _, _, _, _, _, h, _ => by simp at h
  | a :: l, b :: m, 0, x, y, _, hx, hy, h => by
    simp at hx hy
    subst hx hy
    simp only [cmpI, or2]
    rw [if_neg h]
  | a :: l, b :: m, k + 1, x, y, ht, hx, hy, h => by
    simp at ht hx hy
    obtain ⟨rfl, ht⟩ := ht
    simp only [cmpI, or2]
    rw [if_pos (cmpN_is.self a)]
    exact cmpI_at ht hx hy h
theorem cmpI_end : ∀ {l m : List Int}, l.take (min l.length m.length) = m.take (min l.length m.length) → cmpI l m = cmpN l.length m.length
  | [], [], _ => rfl
  | [], b :: m, _ => by simp [cmpI, cmpN]; try omega
  | a :: l, [], _ => by simp [cmpI, cmpN]; try omega
  | a :: l, b :: m, h => by
    have e : min (a :: l).length (b :: m).length = min l.length m.length + 1 := by simp only [List.length_cons]; omega
    rw [e] at h
    simp at h
    obtain ⟨rfl, h⟩ := h
    simp only [cmpI, or2]
    rw [if_pos (cmpN_is.self a), cmpI_end h]
    simp [cmpN]

/-- The two keys as numbers; the bytes as numbers. -/
def primI (L : List (List ByteArray)) (s : List UInt8) : List Int := (letters L s).map fun x => (x.1 : Int)
def secI (L : List (List ByteArray)) (s : List UInt8) : List Int := (letters L s).map fun x => (x.2.1 : Int)
def bytesI (s : List UInt8) : List Int := s.map fun b => (b.toNat : Int)
theorem bytesI_inj {s t : List UInt8} (h : bytesI s = bytesI t) : s = t := by
  unfold bytesI at h
  induction s generalizing t with
  | nil => cases t with
    | nil => rfl
    | cons y t => simp at h
  | cons x s ih => cases t with
    | nil => simp at h
    | cons y t =>
      simp at h
      obtain ⟨h1, h2⟩ := h
      rw [show x = y from UInt8.toNat_inj.1 (by omega), ih h2]
def cmpS (L : List (List ByteArray)) (s t : List UInt8) : Int := or2 (cmpI (primI L s) (primI L t)) (or2 (cmpI (secI L s) (secI L t)) (cmpI (bytesI s) (bytesI t)))
theorem cmpS_is (L : List (List ByteArray)) : IsCmp (cmpS L) := (cmpI_is.comap (primI L)).or ((cmpI_is.comap (secI L)).or (cmpI_is.comap bytesI))
theorem cmpS_zero {L : List (List ByteArray)} {s t : List UInt8} (h : cmpS L s t = 0) : s = t := by
  unfold cmpS or2 at h
  split at h
  · split at h
    · exact bytesI_inj (cmpI_zero _ _ h)
    · omega
  · omega
end Go.Proofs.Ytgbhpmbkhhbifaa.Col
