import Derived.Test.YtacfeabdeaikhaaDoorPlainSort
set_option linter.unusedVariables false
set_option linter.unusedSimpArgs false
namespace Go.Proofs.YtacfeabdeaikhaaDoor.Srt
open Go.Proofs.YtacfeabdeaikhaaDoor.Col Go.Proofs.YtacfeabdeaikhaaDoor
variable {α : Type} {c : α → α → Int}
/-! ### The stable sort: runs of one length, then of twice that length -/
def TagIn (d : Nat → Tag α) (lo hi : Nat) : Prop := ∀ k, lo ≤ k → k < hi → lo ≤ (d k).2 ∧ (d k).2 < hi
structure Run (c : α → α → Int) (d : Nat → Tag α) (lo hi : Nat) : Prop where
  sorted : SortedOn c d lo hi
  tags : TagIn d lo hi
theorem Run.congr {d d' : Nat → Tag α} {lo hi : Nat} (h : Run c d lo hi) (he : ∀ k, lo ≤ k → k < hi → d' k = d k) : Run c d' lo hi :=
  ⟨fun i j h1 h2 h3 => by rw [he i h1 (by omega), he j (by omega) h3]; exact h.sorted i j h1 h2 h3, fun k h1 h2 => by rw [he k h1 h2]; exact h.tags k h1 h2⟩
theorem Run.merge {d : Nat → Tag α} {a m b : Nat} (h1 : Run c d a m) (h2 : Run c d m b) : Merge c d a m b :=
  ⟨h1.sorted, h2.sorted, fun i j x1 x2 x3 x4 => by have := (h1.tags i x1 x2).2; have := (h2.tags j x3 x4).1; omega⟩
theorem Merged.run {d d' : Nat → Tag α} {a m b : Nat} (h1 : Run c d a m) (h2 : Run c d m b) (_ham : a ≤ m) (_hmb : m ≤ b) (h : Merged c d d' a b) : Run c d' a b :=
  ⟨h.sorted, fun k x1 x2 => by
    obtain ⟨j, j1, j2, e⟩ := h.perm.mem x1 x2
    rw [e]
    by_cases q : j < m
    · have := h1.tags j j1 q; omega
    · have := h2.tags j (by omega) j2; omega⟩
def Done (c : α → α → Int) (d : Nat → Tag α) (B q : Nat) : Prop := ∀ p, p < q → Run c d (p * B) (p * B + B)
def Todo (c : α → α → Int) (d : Nat → Tag α) (B n q : Nat) : Prop := ∀ p, q ≤ p → p * B < n → Run c d (p * B) (min (p * B + B) n)
theorem mul_step {p q B : Nat} (h : p < q) : p * B + B ≤ q * B := by
  have := Nat.mul_le_mul_right B (Nat.succ_le_of_lt h)
  rw [Nat.succ_mul] at this
  exact this
theorem mul_two (q B : Nat) : (2 * q) * B = q * (2 * B) := by rw [Nat.mul_comm 2 q, Nat.mul_assoc]
theorem mul_two1 (q B : Nat) : (2 * q + 1) * B = q * (2 * B) + B := by rw [Nat.succ_mul, mul_two]
theorem pair_merge {d : Nat → Tag α} {B n q A : Nat} (ht : Todo c d B n (2 * q)) (hA : A = q * (2 * B)) (hB : 1 ≤ B) (h : A + 2 * B ≤ n) : Run c d A (A + B) ∧ Run c d (A + B) (A + 2 * B) := by
  have h1 := ht (2 * q) (Nat.le_refl _) (by rw [mul_two]; omega)
  have h2 := ht (2 * q + 1) (by omega) (by rw [mul_two1]; omega)
  rw [mul_two, ← hA] at h1
  rw [mul_two1, ← hA] at h2
  rw [show min (A + B) n = A + B by omega] at h1
  rw [show min (A + B + B) n = A + 2 * B by omega] at h2
  exact ⟨h1, h2⟩
theorem pair_next {d d' : Nat → Tag α} {B n q A : Nat} (hd : Done c d (2 * B) q) (ht : Todo c d B n (2 * q)) (hA : A = q * (2 * B)) (hB : 1 ≤ B) (h : A + 2 * B ≤ n) (hm : Merged c d d' A (A + 2 * B)) :
    Done c d' (2 * B) (q + 1) ∧ Todo c d' B n (2 * (q + 1)) := by
  obtain ⟨r1, r2⟩ := pair_merge ht hA hB h
  constructor
  · intro p hp
    by_cases e : p = q
    · subst e; rw [← hA]; exact hm.run r1 r2 (by omega) (by omega)
    · have hpq : p < q := by omega
      have := mul_step (B := 2 * B) hpq
      exact (hd p hpq).congr fun k _ h2 => hm.perm.out k (by omega)
  · intro p hp hlt
    have h1 : (2 * (q + 1)) * B ≤ p * B := Nat.mul_le_mul_right B hp
    rw [mul_two, Nat.succ_mul] at h1
    exact (ht p (by omega) hlt).congr fun k h2 _ => hm.perm.out k (by omega)
theorem last_merge {d : Nat → Tag α} {B n q A : Nat} (ht : Todo c d B n (2 * q)) (hA : A = q * (2 * B)) (h1 : A + B < n) (h2 : n < A + 2 * B) : Run c d A (A + B) ∧ Run c d (A + B) n := by
  have g1 := ht (2 * q) (Nat.le_refl _) (by rw [mul_two]; omega)
  have g2 := ht (2 * q + 1) (by omega) (by rw [mul_two1]; omega)
  rw [mul_two, ← hA] at g1
  rw [mul_two1, ← hA] at g2
  rw [show min (A + B) n = A + B by omega] at g1
  rw [show min (A + B + B) n = n by omega] at g2
  exact ⟨g1, g2⟩
theorem last_next {d d' : Nat → Tag α} {B n q A : Nat} (hd : Done c d (2 * B) q) (ht : Todo c d B n (2 * q)) (hA : A = q * (2 * B)) (h1 : A + B < n) (h2 : n < A + 2 * B) (hm : Merged c d d' A n) : Todo c d' (2 * B) n 0 := by
  obtain ⟨r1, r2⟩ := last_merge ht hA h1 h2
  intro p _ hlt
  by_cases e : p = q
  · subst e
    rw [← hA, show min (A + 2 * B) n = n by omega]
    exact hm.run r1 r2 (by omega) (by omega)
  · by_cases hpq : p < q
    · have := mul_step (B := 2 * B) hpq
      rw [show min (p * (2 * B) + 2 * B) n = p * (2 * B) + 2 * B by omega]
      exact (hd p hpq).congr fun k _ h2 => hm.perm.out k (by omega)
    · have := mul_step (B := 2 * B) (p := q) (q := p) (by omega)
      omega
theorem last_skip {d : Nat → Tag α} {B n q A : Nat} (hd : Done c d (2 * B) q) (ht : Todo c d B n (2 * q)) (hA : A = q * (2 * B)) (hAn : A ≤ n) (h1 : n ≤ A + B) : Todo c d (2 * B) n 0 := by
  intro p _ hlt
  by_cases e : p = q
  · subst e
    have g1 := ht (2 * p) (Nat.le_refl _) (by rw [mul_two]; omega)
    rw [mul_two, ← hA] at g1
    rw [← hA, show min (A + 2 * B) n = min (A + B) n by omega]
    exact g1
  · by_cases hpq : p < q
    · have := mul_step (B := 2 * B) hpq
      rw [show min (p * (2 * B) + 2 * B) n = p * (2 * B) + 2 * B by omega]
      exact hd p hpq
    · have := mul_step (B := 2 * B) (p := q) (q := p) (by omega)
      omega
theorem todo_all {d : Nat → Tag α} {B n : Nat} (ht : Todo c d B n 0) (h : n ≤ B) : SortedOn c d 0 n := by
  by_cases h0 : 0 < n
  · have := (ht 0 (Nat.le_refl _) (by omega)).sorted
    rw [Nat.zero_mul, Nat.zero_add, show min B n = n by omega] at this
    exact this
  · intro i j _ h2 h3; omega
theorem tagIn_ins {d0 d d' : Nat → Tag α} {a b : Nat} (h0 : ∀ k, (d0 k).2 = k) (he : ∀ k, a ≤ k → d k = d0 k) (hp : PermOn a b d d') : TagIn d' a b := fun k h1 h2 => by
  obtain ⟨j, j1, j2, e⟩ := hp.mem h1 h2
  rw [e, he j j1, h0 j]
  exact ⟨j1, j2⟩
theorem blocks_next {d0 d d' : Nat → Tag α} {B q A : Nat} (h0 : ∀ k, (d0 k).2 = k) (hd : Done c d B q) (hA : A = q * B) (he : ∀ k, A ≤ k → d k = d0 k) (hp : PermOn A (A + B) d d') (hs : SortedOn c d' A (A + B)) :
    Done c d' B (q + 1) ∧ ∀ k, A + B ≤ k → d' k = d0 k := by
  refine ⟨fun p h => ?_, fun k hk => by rw [hp.out k (by omega)]; exact he k (by omega)⟩
  by_cases e : p = q
  · subst e; rw [← hA]; exact ⟨hs, tagIn_ins h0 he hp⟩
  · have hpq : p < q := by omega
    have := mul_step (B := B) hpq
    exact (hd p hpq).congr fun k _ h2 => hp.out k (by omega)
theorem blocks_last {d0 d d' : Nat → Tag α} {B q A n : Nat} (h0 : ∀ k, (d0 k).2 = k) (hd : Done c d B q) (hA : A = q * B) (hAn : A ≤ n) (hn : n < A + B) (he : ∀ k, A ≤ k → d k = d0 k) (hp : PermOn A n d d') (hs : SortedOn c d' A n) :
    Todo c d' B n 0 := by
  intro p _ hlt
  by_cases e : p = q
  · subst e
    rw [← hA, show min (A + B) n = n by omega]
    exact ⟨hs, tagIn_ins h0 he hp⟩
  · by_cases hpq : p < q
    · have := mul_step (B := B) hpq
      rw [show min (p * B + B) n = p * B + B by omega]
      exact (hd p hpq).congr fun k _ h2 => hp.out k (by omega)
    · have := mul_step (B := B) (p := q) (q := p) (by omega)
      omega

/-! ### There is one order only -/
theorem sorted_unique (hc : IsCmp c) : ∀ {l m : List (Tag α)}, l.Perm m → l.Pairwise (lexLt c) → m.Pairwise (lexLt c) → l = m
  | [], m, hp, _, _ => by rw [List.nil_perm.1 hp]
  | x :: l, [], hp, _, _ => by have := hp.length_eq; simp at this
  | x :: l, y :: m, hp, h1, h2 => by
    rw [List.pairwise_cons] at h1 h2
    have e : x = y := by
      have hx : x ∈ y :: m := hp.mem_iff.1 (List.mem_cons_self)
      have hy : y ∈ x :: l := hp.mem_iff.2 (List.mem_cons_self)
      rcases List.mem_cons.1 hx with e | hx
      · exact e
      · rcases List.mem_cons.1 hy with e | hy
        · exact e.symm
        · exact absurd (h2.1 x hx) (lexLt_asymm hc (h1.1 y hy))
    subst e
    rw [sorted_unique hc (List.Perm.cons_inv hp) h1.2 h2.2]
/-- The first n elements as a list. -/
def listOf (d : Nat → Tag α) (n : Nat) : List (Tag α) := (List.range n).map d
theorem listOf_pairwise {d : Nat → Tag α} {n : Nat} (h : SortedOn c d 0 n) : (listOf d n).Pairwise (lexLt c) := by
  unfold listOf
  rw [List.pairwise_map, List.pairwise_iff_getElem]
  intro i j hi hj hij
  simp at hi hj ⊢
  exact h i j (Nat.zero_le _) hij hj
theorem listOf_perm {d d' : Nat → Tag α} {n : Nat} (h : PermOn 0 n d d') : (listOf d' n).Perm (listOf d n) := by
  have := h.perm
  simpa [listOf, List.range_eq_range'] using this
/-- A list, told as tagged elements. -/
def tagged [Inhabited α] (xs : List α) : Nat → Tag α := fun k => (xs.getD k default, k)
theorem listOf_tagged [Inhabited α] (xs : List α) : listOf (tagged xs) xs.length = xs.zipIdx := by
  unfold listOf tagged
  apply List.ext_getElem?
  intro k
  simp only [List.getElem?_map]
  by_cases hk : k < xs.length
  · rw [List.getElem?_range hk]
    simp [List.getElem?_zipIdx, hk]
  · rw [List.getElem?_eq_none (by simp; omega), List.getElem?_eq_none (by simp; omega)]
    rfl
/-- ys is xs in order, equal elements in the order in which they were. -/
def StableOf (c : α → α → Int) (xs ys : List α) : Prop := ∃ p : List (Tag α), p.Perm xs.zipIdx ∧ p.Pairwise (lexLt c) ∧ p.map (·.1) = ys
theorem StableOf.unique (hc : IsCmp c) {xs ys zs : List α} (h1 : StableOf c xs ys) (h2 : StableOf c xs zs) : ys = zs := by
  obtain ⟨p, p1, p2, p3⟩ := h1
  obtain ⟨q, q1, q2, q3⟩ := h2
  rw [← p3, ← q3, sorted_unique hc (p1.trans q1.symm) p2 q2]
theorem stableOf_of [Inhabited α] {xs : List α} {d : Nat → Tag α} (hp : PermOn 0 xs.length (tagged xs) d) (hs : SortedOn c d 0 xs.length) : StableOf c xs ((listOf d xs.length).map (·.1)) :=
  ⟨_, by rw [← listOf_tagged]; exact listOf_perm hp, listOf_pairwise hs, rfl⟩
theorem StableOf.perm {xs ys : List α} (h : StableOf c xs ys) : ys.Perm xs := by
  obtain ⟨p, p1, _, rfl⟩ := h
  have := p1.map (·.1)
  rwa [List.zipIdx_map_fst] at this
theorem StableOf.sorted {xs ys : List α} (h : StableOf c xs ys) : ys.Pairwise (fun x y => c x y ≤ 0) := by
  obtain ⟨p, _, p2, rfl⟩ := h
  rw [List.pairwise_map]
  exact p2.imp fun h => by unfold lexLt at h; omega
end Go.Proofs.YtacfeabdeaikhaaDoor.Srt
