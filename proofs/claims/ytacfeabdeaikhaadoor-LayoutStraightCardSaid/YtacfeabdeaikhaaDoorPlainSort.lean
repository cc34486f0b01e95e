/-
  PLAIN LAW of the stable sort: rows of tagged elements (value, place), sorted by the comparison and then by the tag. No program in sight.
-/
import Derived.Test.YtacfeabdeaikhaaDoorPlainOrd
import Derived.Test.YtacfeabdeaikhaaDoorRow
set_option linter.unusedVariables false
set_option linter.unusedSimpArgs false
namespace Go.Proofs.YtacfeabdeaikhaaDoor.Srt
open Go.Proofs.YtacfeabdeaikhaaDoor.Col Go.Proofs.YtacfeabdeaikhaaDoor
variable {α : Type} {c : α → α → Int}

/-- The elements that are sorted: a value, and the place where it stood. -/
abbrev Tag (α : Type) := α × Nat
/-- p comes before q. -/
def lexLt (c : α → α → Int) (p q : Tag α) : Prop := c p.1 q.1 < 0 ∨ (c p.1 q.1 = 0 ∧ p.2 < q.2)
theorem lexLt_trans (hc : IsCmp c) {p q r : Tag α} (h1 : lexLt c p q) (h2 : lexLt c q r) : lexLt c p r := by
  unfold lexLt at *
  have := hc.trans p.1 q.1 r.1
  skip
  omega
theorem lexLt_irrefl (hc : IsCmp c) {p : Tag α} : ¬ lexLt c p p := by
  unfold lexLt
  have := hc.self p.1
  omega
theorem lexLt_asymm (hc : IsCmp c) {p q : Tag α} (h : lexLt c p q) : ¬ lexLt c q p := fun k => lexLt_irrefl hc (lexLt_trans hc h k)

def SortedOn (c : α → α → Int) (d : Nat → Tag α) (a b : Nat) : Prop := ∀ i j, a ≤ i → i < j → j < b → lexLt c (d i) (d j)
/-- The places a .. b-1 hold the same elements in both, and all other places are the same. -/
structure PermOn (a b : Nat) (d d' : Nat → Tag α) : Prop where
  out : ∀ k, (k < a ∨ b ≤ k) → d' k = d k
  perm : ((List.range' a (b - a)).map d').Perm ((List.range' a (b - a)).map d)
theorem PermOn.refl (a b : Nat) (d : Nat → Tag α) : PermOn a b d d := ⟨fun _ _ => rfl, List.Perm.refl _⟩
theorem PermOn.trans {a b : Nat} {d e f : Nat → Tag α} (h : PermOn a b d e) (k : PermOn a b e f) : PermOn a b d f :=
  ⟨fun i hi => (k.out i hi).trans (h.out i hi), k.perm.trans h.perm⟩
theorem range'_split (a m b : Nat) (h1 : a ≤ m) (h2 : m ≤ b) : List.range' a (b - a) = List.range' a (m - a) ++ List.range' m (b - m) := by
  have : List.range' a (m - a) ++ List.range' (a + 1 * (m - a)) (b - m) = List.range' a ((m - a) + (b - m)) := List.range'_append
  rw [show a + 1 * (m - a) = m by omega, show (m - a) + (b - m) = b - a by omega] at this
  exact this.symm
theorem PermOn.wider {a b a' b' : Nat} {d d' : Nat → Tag α} (h : PermOn a b d d') (h1 : a' ≤ a) (h2 : b ≤ b') (hab : a ≤ b) : PermOn a' b' d d' := by
  refine ⟨fun k hk => h.out k (by omega), ?_⟩
  rw [range'_split a' a b' h1 (by omega), range'_split a b b' hab h2]
  simp only [List.map_append]
  refine List.Perm.append ?_ (List.Perm.append h.perm ?_)
  · rw [List.map_congr_left (fun k hk => h.out k (by rw [List.mem_range'_1] at hk; omega))]
  · rw [List.map_congr_left (fun k hk => h.out k (by rw [List.mem_range'_1] at hk; omega))]
theorem PermOn.mem {a b : Nat} {d d' : Nat → Tag α} (h : PermOn a b d d') {k : Nat} (h1 : a ≤ k) (h2 : k < b) : ∃ j, a ≤ j ∧ j < b ∧ d' k = d j := by
  have : d' k ∈ (List.range' a (b - a)).map d' := List.mem_map_of_mem (by rw [List.mem_range'_1]; omega)
  rw [h.perm.mem_iff, List.mem_map] at this
  obtain ⟨j, hj, e⟩ := this
  rw [List.mem_range'_1] at hj
  exact ⟨j, by omega, by omega, e.symm⟩

theorem swap_perm (d : Nat → Tag α) (i j : Nat) (hij : i ≤ j) : PermOn i (j + 1) d (swpF d i j) := by
  refine ⟨fun k hk => ?_, ?_⟩
  · simp only [swpF, upd]; rw [if_neg (by omega), if_neg (by omega)]
  · by_cases e : i = j
    · subst e
      have : swpF d i i = d := by funext k; simp only [swpF, upd]; split <;> simp_all
      rw [this]
    · have e1 : List.range' i (j + 1 - i) = i :: (List.range' (i + 1) (j - i - 1) ++ [j]) := by
        rw [range'_split i (i + 1) (j + 1) (by omega) (by omega), range'_split (i + 1) j (j + 1) (by omega) (by omega), show i + 1 - i = 1 by omega, show j + 1 - j = 1 by omega]
        rw [show j - (i + 1) = j - i - 1 by omega]
        simp
      rw [e1]
      simp only [List.map_cons, List.map_append, List.map_nil]
      rw [List.map_congr_left (g := d) (fun k hk => by rw [List.mem_range'_1] at hk; simp only [swpF, upd]; rw [if_neg (by omega), if_neg (by omega)])]
      have h1 : swpF d i j i = d j := by simp only [swpF, upd]; rw [if_neg e, if_pos trivial]
      have h2 : swpF d i j j = d i := by simp only [swpF, upd]; rw [if_pos trivial]
      rw [h1, h2]
      have p1 : ∀ (x y : Tag α) (l : List (Tag α)), (x :: (l ++ [y])).Perm (y :: (l ++ [x])) := fun x y l =>
        ((List.Perm.cons x (List.perm_append_comm (l₁ := l) (l₂ := [y]))).trans (by simpa using List.Perm.swap y x l)).trans (List.Perm.cons y (List.perm_append_comm (l₁ := [x]) (l₂ := l)))
      exact p1 _ _ _
theorem swap_perm' (d : Nat → Tag α) (i j : Nat) (hij : j ≤ i) : PermOn j (i + 1) d (swpF d i j) := by
  have : swpF d i j = swpF d j i := by
    funext k
    simp only [swpF, upd]
    split <;> split <;> simp_all
  rw [this]
  exact swap_perm d j i hij

/-- All the tags at the places a .. m-1 are smaller than those at m .. b-1. -/
def TagSep (d : Nat → Tag α) (a m b : Nat) : Prop := ∀ i j, a ≤ i → i < m → m ≤ j → j < b → (d i).2 < (d j).2

/-! ### The insertion sort -/
/-- The state of the inner loop: places a .. i are in order but for place j, whose element is smaller than those behind it and younger than those ahead of it. -/
structure InsAt (c : α → α → Int) (d0 d : Nat → Tag α) (a i j : Nat) : Prop where
  perm : PermOn a (i + 1) d0 d
  rest : ∀ p q, a ≤ p → p < q → q ≤ i → p ≠ j → q ≠ j → lexLt c (d p) (d q)
  behind : ∀ q, j < q → q ≤ i → lexLt c (d j) (d q)
  young : ∀ p, a ≤ p → p < j → (d p).2 < (d j).2
theorem InsAt.start {d0 d : Nat → Tag α} {a i : Nat} (hp : PermOn a (i + 1) d0 d) (hs : SortedOn c d a i) (hy : ∀ p, a ≤ p → p < i → (d p).2 < (d i).2) : InsAt c d0 d a i i :=
  ⟨hp, fun p q h1 h2 h3 _ h5 => hs p q h1 h2 (by omega), fun q h1 h2 => by omega, hy⟩
theorem InsAt.stop (hc : IsCmp c) {d0 d : Nat → Tag α} {a i j : Nat} (h : InsAt c d0 d a i j) (hj : j ≤ i) (hs : j ≤ a ∨ ¬ c (d j).1 (d (j - 1)).1 < 0) : SortedOn c d a (i + 1) := by
  intro p q h1 h2 h3
  by_cases e1 : p = j
  · subst e1; exact h.behind q h2 (by omega)
  · by_cases e2 : q = j
    · subst e2
      rcases hs with hs | hs
      · omega
      · have hlast : lexLt c (d (q - 1)) (d q) := by
          have := hc.anti (d q).1 (d (q - 1)).1
          have := h.young (q - 1) (by omega) (by omega)
          unfold lexLt
          omega
        by_cases e3 : p = q - 1
        · subst e3; exact hlast
        · exact lexLt_trans hc (h.rest p (q - 1) h1 (by omega) (by omega) (by omega) (by omega)) hlast
    · exact h.rest p q h1 h2 (by omega) e1 e2
theorem InsAt.step {d0 d : Nat → Tag α} {a i j : Nat} (h : InsAt c d0 d a i j) (hj : j ≤ i) (haj : a < j) (hs : c (d j).1 (d (j - 1)).1 < 0) : InsAt c d0 (swpF d j (j - 1)) a i (j - 1) := by
  have h1 : swpF d j (j - 1) (j - 1) = d j := by simp only [swpF, upd]; simp
  have h2 : swpF d j (j - 1) j = d (j - 1) := by simp only [swpF, upd]; rw [if_neg (by omega), if_pos trivial]
  have h3 : ∀ k, k ≠ j → k ≠ j - 1 → swpF d j (j - 1) k = d k := fun k a b => by simp only [swpF, upd]; rw [if_neg b, if_neg a]
  refine ⟨h.perm.trans ((swap_perm' d j (j - 1) (by omega)).wider (by omega) (by omega) (by omega)), ?_, ?_, ?_⟩
  · intro p q p1 p2 p3 p4 p5
    by_cases e1 : p = j
    · subst e1
      rw [h2, h3 q (by omega) (by omega)]
      exact h.rest (p - 1) q (by omega) (by omega) p3 (by omega) (by omega)
    · by_cases e2 : q = j
      · subst e2
        rw [h2, h3 p (by omega) (by omega)]
        exact h.rest p (q - 1) p1 (by omega) (by omega) (by omega) (by omega)
      · rw [h3 p e1 p4, h3 q e2 p5]
        exact h.rest p q p1 p2 p3 e1 e2
  · intro q q1 q2
    rw [h1]
    by_cases e : q = j
    · subst e; rw [h2]; exact Or.inl hs
    · rw [h3 q e (by omega)]; exact h.behind q (by omega) q2
  · intro p p1 p2
    rw [h1, h3 p (by omega) (by omega)]
    exact h.young p p1 (by omega)

/-! ### Merging -/
/-- Two runs in order, the second younger; merged they are in order. -/
structure Merge (c : α → α → Int) (d : Nat → Tag α) (a m b : Nat) : Prop where
  left : SortedOn c d a m
  right : SortedOn c d m b
  tags : TagSep d a m b
structure Merged (c : α → α → Int) (d d' : Nat → Tag α) (a b : Nat) : Prop where
  perm : PermOn a b d d'
  sorted : SortedOn c d' a b

/-- What a right element that is not before a left one says. -/
theorem Merge.le (hc : IsCmp c) {d : Nat → Tag α} {a m b i j : Nat} (h : Merge c d a m b) (h1 : a ≤ i) (h2 : i < m) (h3 : m ≤ j) (h4 : j < b) (hs : ¬ c (d j).1 (d i).1 < 0) : lexLt c (d i) (d j) := by
  have := hc.anti (d j).1 (d i).1
  have := h.tags i j h1 h2 h3 h4
  unfold lexLt
  omega

/-- d' is d with the block a .. m-1 moved behind the block m .. b-1. -/
def Rotated (d d' : Nat → Tag α) (a m b : Nat) : Prop :=
  (∀ k, (k < a ∨ b ≤ k) → d' k = d k) ∧ (∀ k, a ≤ k → k < a + (b - m) → d' k = d (k + (m - a))) ∧ (∀ k, a + (b - m) ≤ k → k < b → d' k = d (k - (b - m)))
theorem map_range'_shift (f g : Nat → Tag α) (s t n : Nat) (h : ∀ k, k < n → f (s + k) = g (t + k)) : (List.range' s n).map f = (List.range' t n).map g := by
  apply List.ext_getElem?
  intro k
  simp only [List.getElem?_map]
  by_cases hk : k < n
  · rw [List.getElem?_range' hk, List.getElem?_range' hk]
    simp [h k hk]
  · rw [List.getElem?_eq_none (by simp; omega), List.getElem?_eq_none (by simp; omega)]
    rfl
theorem Rotated.permOn {d d' : Nat → Tag α} {a m b : Nat} (h : Rotated d d' a m b) (h1 : a ≤ m) (h2 : m ≤ b) : PermOn a b d d' := by
  refine ⟨h.1, ?_⟩
  have hl : (List.range' a (b - a)).map d = (List.range' a (m - a)).map d ++ (List.range' m (b - m)).map d := by rw [range'_split a m b h1 h2, List.map_append]
  rw [hl]
  refine List.Perm.trans ?_ (List.perm_append_comm (l₁ := (List.range' m (b - m)).map d))
  rw [range'_split a (a + (b - m)) b (by omega) (by omega), List.map_append]
  rw [show a + (b - m) - a = b - m by omega, show b - (a + (b - m)) = m - a by omega]
  rw [map_range'_shift d' d a m (b - m) (fun k hk => by rw [h.2.1 (a + k) (by omega) (by omega)]; congr 1; omega)]
  rw [map_range'_shift d' d (a + (b - m)) a (m - a) (fun k hk => by rw [h.2.2 (a + (b - m) + k) (by omega) (by omega)]; congr 1; omega)]

/-- One element ahead of a run: moved behind those that are before it. -/
theorem merged_one (hc : IsCmp c) {d d' : Nat → Tag α} {a b i : Nat} (h : Merge c d a (a + 1) b) (hb : a + 1 ≤ b) (h1 : a + 1 ≤ i) (h2 : i ≤ b) (hr : Rotated d d' a (a + 1) i)
    (hlt : ∀ k, a + 1 ≤ k → k < i → c (d k).1 (d a).1 < 0) (hge : ∀ k, i ≤ k → k < b → ¬ c (d k).1 (d a).1 < 0) : Merged c d d' a b := by
  refine ⟨(hr.permOn (by omega) h1).wider (Nat.le_refl _) h2 (by omega), ?_⟩
  have e1 : ∀ k, a ≤ k → k < i - 1 → d' k = d (k + 1) := fun k x y => by rw [hr.2.1 k x (by omega)]; congr 1; omega
  have e2 : d' (i - 1) = d a := by rw [hr.2.2 (i - 1) (by omega) (by omega)]; congr 1; omega
  have e3 : ∀ k, i ≤ k → d' k = d k := fun k x => hr.1 k (by omega)
  intro p q p1 p2 p3
  by_cases c1 : q < i - 1
  · rw [e1 p p1 (by omega), e1 q (by omega) c1]
    exact h.right _ _ (by omega) (by omega) (by omega)
  · by_cases c2 : q = i - 1
    · rw [c2, e2, e1 p p1 (by omega)]
      exact Or.inl (hlt _ (by omega) (by omega))
    · rw [e3 q (by omega)]
      by_cases c3 : p < i - 1
      · rw [e1 p p1 c3]; exact h.right _ _ (by omega) (by omega) p3
      · by_cases c4 : p = i - 1
        · rw [c4, e2]; exact h.le hc (Nat.le_refl _) (by omega) (by omega) p3 (hge q (by omega) p3)
        · rw [e3 p (by omega)]; exact h.right _ _ (by omega) p2 p3
/-- One element behind a run: moved ahead of those that it is before. -/
theorem merged_last (hc : IsCmp c) {d d' : Nat → Tag α} {a m i : Nat} (h : Merge c d a m (m + 1)) (h1 : a ≤ i) (h2 : i ≤ m) (hr : Rotated d d' i m (m + 1))
    (hge : ∀ k, a ≤ k → k < i → ¬ c (d m).1 (d k).1 < 0) (hlt : ∀ k, i ≤ k → k < m → c (d m).1 (d k).1 < 0) : Merged c d d' a (m + 1) := by
  refine ⟨(hr.permOn h2 (by omega)).wider h1 (Nat.le_refl _) (by omega), ?_⟩
  have e1 : d' i = d m := by rw [hr.2.1 i (by omega) (by omega)]; congr 1; omega
  have e2 : ∀ k, i < k → k < m + 1 → d' k = d (k - 1) := fun k x y => by rw [hr.2.2 k (by omega) y]; congr 1; omega
  have e3 : ∀ k, k < i → d' k = d k := fun k x => hr.1 k (by omega)
  intro p q p1 p2 p3
  by_cases c1 : q < i
  · rw [e3 p (by omega), e3 q c1]; exact h.left _ _ p1 p2 (by omega)
  · by_cases c2 : q = i
    · rw [c2, e1, e3 p (by omega)]
      exact h.le hc p1 (by omega) (by omega) (by omega) (hge p p1 (by omega))
    · rw [e2 q (by omega) p3]
      by_cases c3 : p < i
      · rw [e3 p c3]; exact h.left _ _ p1 (by omega) (by omega)
      · by_cases c4 : p = i
        · rw [c4, e1]; exact Or.inl (hlt _ (by omega) (by omega))
        · rw [e2 p (by omega) (by omega)]; exact h.left _ _ (by omega) (by omega) (by omega)

/-- No element in one of the two runs. -/
theorem Merge.empty_left {d : Nat → Tag α} {a b : Nat} (h : Merge c d a a b) : Merged c d d a b := ⟨PermOn.refl _ _ _, h.right⟩
theorem Merge.empty_right {d : Nat → Tag α} {a b : Nat} (h : Merge c d a b b) : Merged c d d a b := ⟨PermOn.refl _ _ _, h.left⟩

/-- What the symmetric search has found: behind the rotation there are two smaller merges, and all of the first is before all of the second. -/
theorem sym_parts (hc : IsCmp c) {d d1 : Nat → Tag α} {a m b s e mid : Nat} (h : Merge c d a m b) (h1 : a ≤ s) (h2 : s ≤ m) (h3 : m ≤ e) (h4 : e ≤ b) (hm : mid = s + (e - m)) (hr : Rotated d d1 s m e)
    (hRL : a < s → e < b → ¬ c (d e).1 (d (s - 1)).1 < 0) (hLR : s < m → m < e → c (d (e - 1)).1 (d s).1 < 0) :
    Merge c d1 a s mid ∧ Merge c d1 mid e b ∧ ∀ i j, a ≤ i → i < mid → mid ≤ j → j < b → lexLt c (d1 i) (d1 j) := by
  have e1 : ∀ k, k < s → d1 k = d k := fun k x => hr.1 k (by omega)
  have e2 : ∀ k, s ≤ k → k < mid → d1 k = d (k + (m - s)) := fun k x y => hr.2.1 k x (by omega)
  have e3 : ∀ k, mid ≤ k → k < e → d1 k = d (k - (e - m)) := fun k x y => hr.2.2 k (by omega) y
  have e4 : ∀ k, e ≤ k → d1 k = d k := fun k x => hr.1 k (by omega)
  have A : ∀ i j, a ≤ i → i < s → e ≤ j → j < b → lexLt c (d i) (d j) := by
    intro i j x1 x2 x3 x4
    have g := h.le hc (i := s - 1) (j := e) (by omega) (by omega) h3 (by omega) (hRL (by omega) (by omega))
    have g1 : lexLt c (d i) (d e) := by
      by_cases q : i = s - 1
      · rw [q]; exact g
      · exact lexLt_trans hc (h.left i (s - 1) x1 (by omega) (by omega)) g
    by_cases q : j = e
    · rw [q]; exact g1
    · exact lexLt_trans hc g1 (h.right e j h3 (by omega) x4)
  have B : ∀ i j, m ≤ i → i < e → s ≤ j → j < m → lexLt c (d i) (d j) := by
    intro i j x1 x2 x3 x4
    have g : lexLt c (d (e - 1)) (d s) := Or.inl (hLR (by omega) (by omega))
    have g1 : lexLt c (d i) (d s) := by
      by_cases q : i = e - 1
      · rw [q]; exact g
      · exact lexLt_trans hc (h.right i (e - 1) x1 (by omega) (by omega)) g
    by_cases q : j = s
    · rw [q]; exact g1
    · exact lexLt_trans hc g1 (h.left s j h1 (by omega) x4)
  refine ⟨⟨?_, ?_, ?_⟩, ⟨?_, ?_, ?_⟩, ?_⟩
  · intro i j x1 x2 x3
    rw [e1 i (by omega), e1 j x3]; exact h.left i j x1 x2 (by omega)
  · intro i j x1 x2 x3
    rw [e2 i x1 (by omega), e2 j (by omega) x3]; exact h.right _ _ (by omega) (by omega) (by omega)
  · intro i j x1 x2 x3 x4
    rw [e1 i x2, e2 j x3 x4]; exact h.tags _ _ x1 (by omega) (by omega) (by omega)
  · intro i j x1 x2 x3
    rw [e3 i x1 (by omega), e3 j (by omega) x3]; exact h.left _ _ (by omega) (by omega) (by omega)
  · intro i j x1 x2 x3
    rw [e4 i x1, e4 j (by omega)]; exact h.right _ _ (by omega) x2 x3
  · intro i j x1 x2 x3 x4
    rw [e3 i x1 x2, e4 j x3]; exact h.tags _ _ (by omega) (by omega) (by omega) x4
  · intro i j x1 x2 x3 x4
    by_cases p1 : i < s
    · rw [e1 i p1]
      by_cases p2 : j < e
      · rw [e3 j x3 p2]; exact h.left _ _ x1 (by omega) (by omega)
      · rw [e4 j (by omega)]; exact A i j x1 p1 (by omega) x4
    · rw [e2 i (by omega) x2]
      by_cases p2 : j < e
      · rw [e3 j x3 p2]; exact B _ _ (by omega) (by omega) (by omega) (by omega)
      · rw [e4 j (by omega)]; exact h.right _ _ (by omega) (by omega) x4
theorem Merge.congr {d d' : Nat → Tag α} {a m b : Nat} (h : Merge c d a m b) (he : ∀ k, a ≤ k → k < b → d' k = d k) (_ham : a ≤ m) (hmb : m ≤ b) : Merge c d' a m b := by
  refine ⟨fun i j x1 x2 x3 => ?_, fun i j x1 x2 x3 => ?_, fun i j x1 x2 x3 x4 => ?_⟩
  · rw [he i x1 (by omega), he j (by omega) (by omega)]; exact h.left i j x1 x2 x3
  · rw [he i (by omega) (by omega), he j (by omega) x3]; exact h.right i j x1 x2 x3
  · rw [he i x1 (by omega), he j (by omega) x4]; exact h.tags i j x1 x2 x3 x4
theorem sym_all {d d1 d2 d3 : Nat → Tag α} {a mid b : Nat} (h1 : a ≤ mid) (h2 : mid ≤ b) (hp : PermOn a b d d1) (hm1 : Merged c d1 d2 a mid) (hm2 : Merged c d2 d3 mid b)
    (hx : ∀ i j, a ≤ i → i < mid → mid ≤ j → j < b → lexLt c (d1 i) (d1 j)) : Merged c d d3 a b := by
  refine ⟨(hp.trans (hm1.perm.wider (Nat.le_refl _) h2 h1)).trans (hm2.perm.wider h1 (Nat.le_refl _) h2), ?_⟩
  intro p q x1 x2 x3
  by_cases c1 : q < mid
  · rw [hm2.perm.out p (by omega), hm2.perm.out q (by omega)]
    exact hm1.sorted p q x1 x2 c1
  · by_cases c2 : p < mid
    · rw [hm2.perm.out p (by omega)]
      obtain ⟨i, i1, i2, ei⟩ := hm1.perm.mem x1 c2
      obtain ⟨j, j1, j2, ej⟩ := hm2.perm.mem (k := q) (by omega) x3
      rw [ei, ej, hm1.perm.out j (by omega)]
      exact hx i j i1 i2 j1 j2
    · exact hm2.sorted p q (by omega) x2 x3

/-! ### Moving one element; exchanging blocks; rotating -/
theorem rotated_nil_left (d : Nat → Tag α) (a b : Nat) : Rotated d d a a b := ⟨fun _ _ => rfl, fun k _ _ => by simp, fun k x y => by omega⟩
theorem rotated_nil_right (d : Nat → Tag α) (a b : Nat) : Rotated d d a b b := ⟨fun _ _ => rfl, fun k _ _ => by omega, fun k x y => by simp⟩
theorem rotated_up {d dk : Nat → Tag α} {a k : Nat} (h : Rotated d dk a (a + 1) (k + 1)) (hk : a ≤ k) : Rotated d (swpF dk k (k + 1)) a (a + 1) (k + 2) := by
  refine ⟨fun q hq => ?_, fun q h1 h2 => ?_, fun q h1 h2 => ?_⟩ <;> simp only [swpF, upd]
  · rw [if_neg (by omega), if_neg (by omega)]; exact h.1 q (by omega)
  · rw [if_neg (by omega)]
    by_cases e : q = k
    · rw [if_pos e, h.1 (k + 1) (by omega)]; congr 1; omega
    · rw [if_neg e, h.2.1 q h1 (by omega)]
  · rw [if_pos (by omega), h.2.2 k (by omega) (by omega)]; congr 1; omega
theorem rotated_down {d dk : Nat → Tag α} {m k : Nat} (h : Rotated d dk k m (m + 1)) (hk : k ≤ m) (h0 : 0 < k) : Rotated d (swpF dk k (k - 1)) (k - 1) m (m + 1) := by
  refine ⟨fun q hq => ?_, fun q h1 h2 => ?_, fun q h1 h2 => ?_⟩ <;> simp only [swpF, upd]
  · rw [if_neg (by omega), if_neg (by omega)]; exact h.1 q (by omega)
  · rw [if_pos (by omega), h.2.1 k (by omega) (by omega)]; congr 1; omega
  · rw [if_neg (by omega)]
    by_cases e : q = k
    · rw [if_pos e, h.1 (k - 1) (by omega)]; congr 1; omega
    · rw [if_neg e, h.2.2 q (by omega) h2]

def Swapped (d d' : Nat → Tag α) (a b n : Nat) : Prop :=
  ∀ k, d' k = if a ≤ k ∧ k < a + n then d (k + (b - a)) else if b ≤ k ∧ k < b + n then d (k - (b - a)) else d k
theorem swapped_zero (d : Nat → Tag α) (a b : Nat) : Swapped d d a b 0 := fun k => by rw [if_neg (by omega), if_neg (by omega)]
theorem swapped_step {d dk : Nat → Tag α} {a b i : Nat} (h : Swapped d dk a b i) (hab : a + (i + 1) ≤ b) : Swapped d (swpF dk (a + i) (b + i)) a b (i + 1) := by
  intro k
  simp only [swpF, upd]
  by_cases e1 : k = b + i
  · rw [if_pos e1, h (a + i), if_neg (by omega), if_neg (by omega), if_neg (by omega), if_pos (by omega)]; congr 1; omega
  · rw [if_neg e1]
    by_cases e2 : k = a + i
    · rw [if_pos e2, h (b + i), if_neg (by omega), if_neg (by omega), if_pos (by omega)]; congr 1; omega
    · rw [if_neg e2, h k]
      by_cases c1 : a ≤ k ∧ k < a + i
      · rw [if_pos c1, if_pos (by omega)]
      · rw [if_neg c1]
        have c1' : ¬ (a ≤ k ∧ k < a + (i + 1)) := by omega
        rw [if_neg c1']
        by_cases c2 : b ≤ k ∧ k < b + i
        · rw [if_pos c2, if_pos (by omega)]
        · rw [if_neg c2, if_neg (by omega)]
theorem rot_eq {d d1 : Nat → Tag α} {m i : Nat} (h : Swapped d d1 (m - i) m i) (hi : i ≤ m) : Rotated d d1 (m - i) m (m + i) := by
  refine ⟨fun k hk => ?_, fun k h1 h2 => ?_, fun k h1 h2 => ?_⟩ <;> rw [h k]
  · rw [if_neg (by omega), if_neg (by omega)]
  · rw [if_pos (by omega)]
  · rw [if_neg (by omega), if_pos (by omega)]; congr 1; omega
theorem rot_gt {d d1 d2 : Nat → Tag α} {m i j : Nat} (hi : i ≤ m) (hij : j < i) (h : Swapped d d1 (m - i) m j) (k : Rotated d1 d2 (m - (i - j)) m (m + j)) : Rotated d d2 (m - i) m (m + j) := by
  refine ⟨fun q hq => ?_, fun q h1 h2 => ?_, fun q h1 h2 => ?_⟩
  · rw [k.1 q (by omega), h q, if_neg (by omega), if_neg (by omega)]
  · rw [k.1 q (by omega), h q, if_pos (by omega)]
  · by_cases e : q < m - (i - j) + (m + j - m)
    · rw [k.2.1 q (by omega) e, h _, if_neg (by omega)]
      by_cases e2 : m ≤ q + (m - (m - (i - j)))
      · rw [if_pos (by omega)]; congr 1; omega
      · rw [if_neg (by omega)]; omega
    · rw [k.2.2 q (by omega) h2, h _, if_neg (by omega), if_neg (by omega)]
theorem rot_lt {d d1 d2 : Nat → Tag α} {m i j : Nat} (hi : i ≤ m) (hij : i < j) (h : Swapped d d1 (m - i) (m + j - i) i) (k : Rotated d1 d2 (m - i) m (m + (j - i))) : Rotated d d2 (m - i) m (m + j) := by
  refine ⟨fun q hq => ?_, fun q h1 h2 => ?_, fun q h1 h2 => ?_⟩
  · rw [k.1 q (by omega), h q, if_neg (by omega), if_neg (by omega)]
  · by_cases e : q < m - i + (m + (j - i) - m)
    · rw [k.2.1 q (by omega) e, h _, if_neg (by omega), if_neg (by omega)]
    · by_cases e2 : q < m + (j - i)
      · rw [k.2.2 q (by omega) e2, h _, if_pos (by omega)]; congr 1; omega
      · omega
  · by_cases e2 : q < m + (j - i)
    · omega
    · rw [k.1 q (by omega), h q, if_neg (by omega), if_pos (by omega)]; congr 1; omega
end Go.Proofs.YtacfeabdeaikhaaDoor.Srt
