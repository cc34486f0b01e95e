import Derived.Test.YtdpllfgnppeneaaGreatDoorG00
/-
  PLAIN LAW of the chapter on runes: scalars, their encodings, the points of a string. No program in sight.
-/
set_option linter.unusedVariables false
set_option linter.unusedSimpArgs false
namespace Go.Proofs.YtdpllfgnppeneaaGreatDoor.Ru

def scalarB (p : Int) : Bool := decide (0 ≤ p) && decide (p ≤ 1114111) && (decide (p < 55296) || decide (57343 < p))
/-- The bytes of a scalar's encoding, as numbers. -/
def encI (p : Int) : List Int :=
  if p < 128 then [p]
  else if p < 2048 then [192 + p / 64, 128 + p % 64]
  else if p < 65536 then [224 + p / 4096, 128 + p / 64 % 64, 128 + p % 64]
  else [240 + p / 262144, 128 + p / 4096 % 64, 128 + p / 64 % 64, 128 + p % 64]
def encL (p : Int) : List UInt8 := (encI p).map fun v => UInt8.ofNat v.toNat
theorem encI_range {p : Int} (h0 : 0 ≤ p) (h1 : p ≤ 1114111) : ∀ v ∈ encI p, 0 ≤ v ∧ v < 256 := by
  intro v hv
  unfold encI at hv
  split at hv
  · simp at hv; omega
  · split at hv
    · simp at hv; omega
    · split at hv
      · simp at hv; omega
      · simp at hv; omega
/-- What the first byte says: the bits that it brings, and the number of bytes. -/
def lead (b : Nat) : Nat × Nat := if 240 ≤ b then (b - 240, 4) else if 224 ≤ b then (b - 224, 3) else if 192 ≤ b then (b - 192, 2) else (b, 1)
/-- The bits of the bytes that follow. -/
def cont (p : Nat) (l : List UInt8) : Nat := l.foldl (fun p b => p * 64 + b.toNat % 64) p
/-- The scalar at the beginning of l, and the number of its bytes. -/
def firstL (l : List UInt8) : Option (Nat × Nat) :=
  match l with
  | [] => none
  | b :: t =>
    let n := (lead b.toNat).2
    let p := cont (lead b.toNat).1 (t.take (n - 1))
    if n ≤ t.length + 1 ∧ scalarB p = true ∧ encL p = (b :: t).take n then some (p, n) else none
def pointsN : Nat → List UInt8 → Option (List Nat)
  | 0, _ => some []
  | f + 1, l =>
    match l with
    | [] => some []
    | b :: t =>
      match firstL (b :: t) with
      | none => none
      | some (p, n) => (pointsN f ((b :: t).drop n)).map (p :: ·)
def points (l : List UInt8) : Option (List Nat) := pointsN l.length l
theorem lead_pos (b : Nat) : 1 ≤ (lead b).2 ∧ (lead b).2 ≤ 4 := by
  unfold lead; split
  · simp
  · split
    · simp
    · split <;> simp
theorem lead_lt {b : Nat} (h : b < 256) : (lead b).1 < 256 := by
  unfold lead; split
  · simp; omega
  · split
    · simp; omega
    · split
      · simp; omega
      · simp; omega
theorem cont_snoc (p : Nat) (l : List UInt8) (b : UInt8) : cont p (l ++ [b]) = cont p l * 64 + b.toNat % 64 := by simp [cont]
theorem cont_lt (p : Nat) : ∀ (l : List UInt8), cont p l < (p + 1) * 64 ^ l.length := by
  intro l
  induction l generalizing p with
  | nil => simp [cont]
  | cons b t ih =>
    have := ih (p * 64 + b.toNat % 64)
    show cont (p * 64 + b.toNat % 64) t < _
    have h2 : b.toNat % 64 < 64 := Nat.mod_lt _ (by omega)
    refine Nat.lt_of_lt_of_le this ?_
    rw [List.length_cons, Nat.pow_succ, Nat.mul_comm (64 ^ t.length) 64, ← Nat.mul_assoc]
    exact Nat.mul_le_mul_right _ (by omega)
theorem firstL_some {l : List UInt8} {p n : Nat} (h : firstL l = some (p, n)) : 1 ≤ n ∧ n ≤ 4 ∧ n ≤ l.length ∧ scalarB p = true ∧ encL p = l.take n := by
  unfold firstL at h
  split at h
  · cases h
  · rename_i b t
    simp only at h
    split at h
    · rename_i hh
      injection h with h
      injection h with h1 h2
      subst h1 h2
      obtain ⟨x, y⟩ := lead_pos b.toNat
      exact ⟨x, y, by simpa using hh.1, hh.2.1, hh.2.2⟩
    · cases h
theorem pointsN_enough : ∀ (f g : Nat) (l : List UInt8), l.length ≤ f → l.length ≤ g → pointsN f l = pointsN g l := by
  intro f
  induction f with
  | zero =>
    intro g l hf hg
    have : l = [] := List.eq_nil_of_length_eq_zero (by omega)
    subst this
    cases g <;> simp [pointsN]
  | succ f ih =>
    intro g l hf hg
    cases l with
    | nil => cases g <;> simp [pointsN]
    | cons b t =>
      cases g with
      | zero => simp at hg
      | succ g =>
        simp only [pointsN]
        cases hfst : firstL (b :: t) with
        | none => rfl
        | some pn =>
          obtain ⟨p, n⟩ := pn
          have h1 := firstL_some hfst
          simp only
          rw [ih g _ (by rw [List.length_drop]; omega) (by rw [List.length_drop]; omega)]
theorem points_nil : points [] = some [] := rfl
theorem points_none {l : List UInt8} (hl : l ≠ []) (h : firstL l = none) : points l = none := by
  cases l with
  | nil => exact absurd rfl hl
  | cons b t =>
    show pointsN (t.length + 1) (b :: t) = none
    simp only [pointsN, h]
theorem points_some {l : List UInt8} {p n : Nat} (h : firstL l = some (p, n)) : points l = (points (l.drop n)).map (p :: ·) := by
  cases l with
  | nil => simp [firstL] at h
  | cons b t =>
    have h1 := firstL_some h
    show pointsN (t.length + 1) (b :: t) = _
    simp only [pointsN, h]
    rw [pointsN_enough t.length ((b :: t).drop n).length _ (by rw [List.length_drop]; simp; omega) (Nat.le_refl _)]
    rfl
theorem points_length : ∀ (f : Nat) (l : List UInt8) (d : List Nat), l.length ≤ f → points l = some d → d.length ≤ l.length := by
  intro f
  induction f with
  | zero =>
    intro l d hl h
    have : l = [] := List.eq_nil_of_length_eq_zero (by omega)
    subst this
    rw [points_nil] at h
    cases h; simp
  | succ f ih =>
    intro l d hl h
    by_cases h0 : l = []
    · subst h0
      rw [points_nil] at h
      cases h; simp
    · cases hf : firstL l with
      | none => rw [points_none h0 hf] at h; cases h
      | some pn =>
        obtain ⟨p, n⟩ := pn
        rw [points_some hf] at h
        obtain ⟨h1, _, h3, _⟩ := firstL_some hf
        cases hp : points (l.drop n) with
        | none => rw [hp] at h; cases h
        | some d' =>
          rw [hp] at h
          cases h
          have := ih (l.drop n) d' (by rw [List.length_drop]; omega) hp
          rw [List.length_drop] at this
          simp; omega
end Go.Proofs.YtdpllfgnppeneaaGreatDoor.Ru

/-
  PLAIN LAW: comparisons of which the sign alone counts: total orders. No program in sight.
-/
set_option linter.unusedVariables false
set_option linter.unusedSimpArgs false
namespace Go.Proofs.YtdpllfgnppeneaaGreatDoor.Col

/-- A comparison whose sign orders. -/
structure IsCmp {α : Type} (c : α → α → Int) : Prop where
  anti : ∀ x y, c y x = - c x y
  trans : ∀ x y z, c x y ≤ 0 → c y z ≤ 0 → c x z ≤ 0 ∧ (c x z = 0 → c x y = 0 ∧ c y z = 0)
theorem IsCmp.self {α : Type} {c : α → α → Int} (h : IsCmp c) (x : α) : c x x = 0 := by have := h.anti x x; omega
theorem IsCmp.comap {α β : Type} {c : α → α → Int} (h : IsCmp c) (f : β → α) : IsCmp (fun x y => c (f x) (f y)) := ⟨fun _ _ => h.anti _ _, fun _ _ _ => h.trans _ _ _⟩
theorem IsCmp.diff {α : Type} (f : α → Int) : IsCmp (fun x y => f x - f y) := ⟨fun _ _ => by omega, fun _ _ _ => by omega⟩
end Go.Proofs.YtdpllfgnppeneaaGreatDoor.Col

/-
  A ROW THAT IS SORTED IN PLACE: what the world holds while a call writes into n cells of one block and lays new blocks.
-/
set_option linter.unusedVariables false
set_option linter.unusedSimpArgs false
namespace Go.Proofs.YtdpllfgnppeneaaGreatDoor
open Go.RowKit

/-- Since w0: the n cells of block blk from off on hold enc (d 0) .. enc (d (n-1)); all else that was there is as it was; new blocks may have come. -/
structure SS {α : Type} (enc : α → Value) (w0 : World) (blk off n : Nat) (d : Nat → α) (W : World) : Prop where
  os : W.os = w0.os
  tape : W.tape = w0.tape
  output : W.output = w0.output
  size : w0.heap.size ≤ W.heap.size
  block : ∀ k, k < w0.heap.size → k ≠ blk → W.heap[k]? = w0.heap[k]?
  lt : blk < w0.heap.size
  cells : ∀ j, j < n → W.cell? ⟨blk, off + j, none⟩ = some (enc (d j))
  free : ∀ j, j < n → W.frozen? ⟨blk, off + j, none⟩ = false
  obj : ∃ c c' e fr, w0.heap[blk]? = some (.cells c e fr) ∧ W.heap[blk]? = some (.cells c' e fr) ∧ c'.size = c.size ∧ ∀ k, (k < off ∨ off + n ≤ k) → c'[k]? = c[k]?

section
variable {α : Type} {enc : α → Value} {w0 W W' : World} {blk off n : Nat} {d : Nat → α}
theorem SS.start (hb : blk < w0.heap.size) (hc : ∀ j, j < n → w0.cell? ⟨blk, off + j, none⟩ = some (enc (d j))) (hf : ∀ j, j < n → w0.frozen? ⟨blk, off + j, none⟩ = false) (ho : ∃ c e fr, w0.heap[blk]? = some (.cells c e fr)) :
    SS enc w0 blk off n d w0 := by
  obtain ⟨c, e, fr, h⟩ := ho
  exact ⟨rfl, rfl, rfl, Nat.le_refl _, fun _ _ _ => rfl, hb, hc, hf, c, c, e, fr, h, h, rfl, fun _ _ => rfl⟩
theorem SS.below (h : SS enc w0 blk off n d W) (hb : Below W.heap.size W W') : SS enc w0 blk off n d W' := by
  have hlt : blk < W.heap.size := Nat.lt_of_lt_of_le h.lt h.size
  refine ⟨hb.os.trans h.os, hb.tape.trans h.tape, hb.output.trans h.output, Nat.le_trans h.size hb.size, fun k hk hn => (hb.block k (Nat.lt_of_lt_of_le hk h.size)).trans (h.block k hk hn), h.lt,
    fun j hj => (hb.cell (p := ⟨blk, off + j, none⟩) hlt).trans (h.cells j hj), fun j hj => (hb.frozen (p := ⟨blk, off + j, none⟩) hlt).trans (h.free j hj), ?_⟩
  obtain ⟨c, c', e, fr, h1, h2, h3, h4⟩ := h.obj
  exact ⟨c, c', e, fr, h1, (hb.block blk hlt).trans h2, h3, h4⟩
theorem SS.drewN (h : SS enc w0 blk off n d W) (k : Nat) : SS enc w0 blk off n d (W.drewN k) := h.below (below_drewN (Below.refl _ _) k)
theorem SS.drew (h : SS enc w0 blk off n d W) : SS enc w0 blk off n d W.drew := h.drewN 1
theorem SS.alloc (h : SS enc w0 blk off n d W) (o : Obj) : SS enc w0 blk off n d (W.alloc o) := h.below ((Below.refl _ _).alloc (Nat.le_refl _) o)

def upd (d : Nat → α) (i : Nat) (x : α) : Nat → α := fun k => if k = i then x else d k
def swpF (d : Nat → α) (i j : Nat) : Nat → α := upd (upd d i (d j)) j (d i)
theorem SS.store (h : SS enc w0 blk off n d W) {i : Nat} (hi : i < n) (x : α) : SS enc w0 blk off n (upd d i x) (W.setCell ⟨blk, off + i, none⟩ (enc x)) := by
  obtain ⟨c, c', e, fr, h1, h2, h3, h4⟩ := h.obj
  refine ⟨h.os, h.tape, h.output, by simpa using h.size, fun k hk hn => ?_, h.lt, fun j hj => ?_, fun j hj => ?_, c, c'.setIfInBounds (off + i) (enc x), e, fr, h1, ?_, by simpa using h3, fun k hk => ?_⟩
  · rw [Below.heap_setCell _ _ _ _ (by simpa using hn)]; exact h.block k hk hn
  · by_cases e2 : j = i
    · subst e2
      rw [World.cell?_setCell_same _ _ _ (h.cells j hj)]
      simp [upd]
    · rw [World.cell?_setCell_other _ _ _ _ (by intro e'; simp only [Addr.mk.injEq] at e'; omega)]
      simp only [upd, if_neg e2]
      exact h.cells j hj
  · rw [World.frozen?_setCell]; exact h.free j hj
  · simp [World.setCell, Array.getElem?_modify, h2]
  · rw [Array.getElem?_setIfInBounds, if_neg (by omega)]; exact h4 k hk
theorem SS.swapped (h : SS enc w0 blk off n d W) {i j : Nat} (hi : i < n) (hj : j < n) :
    SS enc w0 blk off n (swpF d i j) ((W.setCell ⟨blk, off + i, none⟩ (enc (d j))).setCell ⟨blk, off + j, none⟩ (enc (d i))).drew := ((h.store hi (d j)).store hj (d i)).drew
theorem SS.c2 (h : SS enc w0 blk off n d W) {i j : Nat} (_hi : i < n) (hj : j < n) (v : Value) : ∃ u, (W.setCell ⟨blk, off + i, none⟩ v).cell? ⟨blk, off + j, none⟩ = some u := by
  by_cases e : i = j
  · subst e; exact ⟨v, World.cell?_setCell_same _ _ _ (h.cells i hj)⟩
  · exact ⟨_, (World.cell?_setCell_other _ _ _ _ (by intro e'; simp only [Addr.mk.injEq] at e'; omega)).trans (h.cells j hj)⟩
theorem SS.congr (h : SS enc w0 blk off n d W) {d' : Nat → α} (hd : ∀ j, j < n → d' j = d j) : SS enc w0 blk off n d' W :=
  ⟨h.os, h.tape, h.output, h.size, h.block, h.lt, fun j hj => by rw [hd j hj]; exact h.cells j hj, h.free, h.obj⟩
/-- What lies below a block number that the row is not below is kept. -/
theorem SS.belowBase (h : SS enc w0 blk off n d W) {B : Nat} (hB : B ≤ blk) : Below B w0 W :=
  ⟨h.os, h.tape, h.output, h.size, fun k hk => h.block k (by have := h.lt; omega) (by omega)⟩
theorem SS.cell (h : SS enc w0 blk off n d W) {p : Addr} (hp : p.block < w0.heap.size) (hn : p.block ≠ blk) : W.cell? p = w0.cell? p := World.cell?_of_block (h.block _ hp hn)
/-- The whole row of an owned slice, told again. -/
theorem SS.owned {base e c : Nat} {xs : List Value} (h : SS enc w0 blk 0 n d W) (ho : w0.ownsRow base e 1 (.slice (some ⟨blk, 0, none⟩) n c) n xs) (ys : List Value) (hl : ys.length = n) (hy : ∀ j, j < n → ys[j]? = some (enc (d j))) :
    W.ownsRow base e 1 (.slice (some ⟨blk, 0, none⟩) n c) n ys := by
  refine ⟨by simpa using hl, ?_⟩
  rcases ho.2 with ⟨h1, _⟩ | ⟨g, cap, cur, hv, hg, hh, hn, hm, hs, ht⟩
  · cases h1
  · injection hv with hv1 hv2 hv3
    injection hv1 with hv1
    injection hv1 with hv1
    subst hv1 hv3
    obtain ⟨c1, c', e', fr, h1, h2, h3, h4⟩ := h.obj
    rw [hh] at h1
    cases h1
    refine .inr ⟨blk, c, c', rfl, hg, h2, hn, hm, by rw [h3]; exact hs, ?_⟩
    apply List.ext_getElem?
    intro j
    by_cases hj : j < n
    · have hc := h.cells j hj
      simp only [World.cell?, h2, Nat.zero_add] at hc
      rw [hy j hj]
      rw [List.getElem?_take]
      simp at hc ⊢
      exact ⟨hj, hc⟩
    · rw [List.getElem?_eq_none (by simp; omega), List.getElem?_eq_none (by omega)]
end
end Go.Proofs.YtdpllfgnppeneaaGreatDoor

/-
  PLAIN LAW of the stable sort: rows of tagged elements (value, place), sorted by the comparison and then by the tag. No program in sight.
-/
set_option linter.unusedVariables false
set_option linter.unusedSimpArgs false
namespace Go.Proofs.YtdpllfgnppeneaaGreatDoor.Srt
open Go.Proofs.YtdpllfgnppeneaaGreatDoor.Col Go.Proofs.YtdpllfgnppeneaaGreatDoor
variable {α : Type} {c : α → α → Int}

/-- The elements that are sorted: a value, and the place where it stood. -/
abbrev Tag (α : Type) := α × Nat
/-- p comes before q. -/
def lexLt (c : α → α → Int) (p q : Tag α) : Prop := c p.1 q.1 < 0 ∨ (c p.1 q.1 = 0 ∧ p.2 < q.2)
theorem lexLt_trans (hc : IsCmp c) {p q r : Tag α} (h1 : lexLt c p q) (h2 : lexLt c q r) : lexLt c p r := by
  unfold lexLt at *
  have := hc.trans p.1 q.1 r.1
  skip
  omega
theorem lexLt_irrefl (hc : IsCmp c) {p : Tag α} : ¬ lexLt c p p := by
  unfold lexLt
  have := hc.self p.1
  omega
theorem lexLt_asymm (hc : IsCmp c) {p q : Tag α} (h : lexLt c p q) : ¬ lexLt c q p := fun k => lexLt_irrefl hc (lexLt_trans hc h k)

def SortedOn (c : α → α → Int) (d : Nat → Tag α) (a b : Nat) : Prop := ∀ i j, a ≤ i → i < j → j < b → lexLt c (d i) (d j)
/-- The places a .. b-1 hold the same elements in both, and all other places are the same. -/
structure PermOn (a b : Nat) (d d' : Nat → Tag α) : Prop where
  out : ∀ k, (k < a ∨ b ≤ k) → d' k = d k
  perm : ((List.range' a (b - a)).map d').Perm ((List.range' a (b - a)).map d)
theorem PermOn.refl (a b : Nat) (d : Nat → Tag α) : PermOn a b d d := ⟨fun _ _ => rfl, List.Perm.refl _⟩
theorem PermOn.trans {a b : Nat} {d e f : Nat → Tag α} (h : PermOn a b d e) (k : PermOn a b e f) : PermOn a b d f :=
  ⟨fun i hi => (k.out i hi).trans (h.out i hi), k.perm.trans h.perm⟩
theorem range'_split (a m b : Nat) (h1 : a ≤ m) (h2 : m ≤ b) : List.range' a (b - a) = List.range' a (m - a) ++ List.range' m (b - m) := by
  have : List.range' a (m - a) ++ List.range' (a + 1 * (m - a)) (b - m) = List.range' a ((m - a) + (b - m)) := List.range'_append
  rw [show a + 1 * (m - a) = m by omega, show (m - a) + (b - m) = b - a by omega] at this
  exact this.symm
theorem PermOn.wider {a b a' b' : Nat} {d d' : Nat → Tag α} (h : PermOn a b d d') (h1 : a' ≤ a) (h2 : b ≤ b') (hab : a ≤ b) : PermOn a' b' d d' := by
  refine ⟨fun k hk => h.out k (by omega), ?_⟩
  rw [range'_split a' a b' h1 (by omega), range'_split a b b' hab h2]
  simp only [List.map_append]
  refine List.Perm.append ?_ (List.Perm.append h.perm ?_)
  · rw [List.map_congr_left (fun k hk => h.out k (by rw [List.mem_range'_1] at hk; omega))]
  · rw [List.map_congr_left (fun k hk => h.out k (by rw [List.mem_range'_1] at hk; omega))]
theorem PermOn.mem {a b : Nat} {d d' : Nat → Tag α} (h : PermOn a b d d') {k : Nat} (h1 : a ≤ k) (h2 : k < b) : ∃ j, a ≤ j ∧ j < b ∧ d' k = d j := by
  have : d' k ∈ (List.range' a (b - a)).map d' := List.mem_map_of_mem (by rw [List.mem_range'_1]; omega)
  rw [h.perm.mem_iff, List.mem_map] at this
  obtain ⟨j, hj, e⟩ := this
  rw [List.mem_range'_1] at hj
  exact ⟨j, by omega, by omega, e.symm⟩

theorem swap_perm (d : Nat → Tag α) (i j : Nat) (hij : i ≤ j) : PermOn i (j + 1) d (swpF d i j) := by
  refine ⟨fun k hk => ?_, ?_⟩
  · simp only [swpF, upd]; rw [if_neg (by omega), if_neg (by omega)]
  · by_cases e : i = j
    · subst e
      have : swpF d i i = d := by funext k; simp only [swpF, upd]; split <;> simp_all
      rw [this]
    · have e1 : List.range' i (j + 1 - i) = i :: (List.range' (i + 1) (j - i - 1) ++ [j]) := by
        rw [range'_split i (i + 1) (j + 1) (by omega) (by omega), range'_split (i + 1) j (j + 1) (by omega) (by omega), show i + 1 - i = 1 by omega, show j + 1 - j = 1 by omega]
        rw [show j - (i + 1) = j - i - 1 by omega]
        simp
      rw [e1]
      simp only [List.map_cons, List.map_append, List.map_nil]
      rw [List.map_congr_left (g := d) (fun k hk => by rw [List.mem_range'_1] at hk; simp only [swpF, upd]; rw [if_neg (by omega), if_neg (by omega)])]
      have h1 : swpF d i j i = d j := by simp only [swpF, upd]; rw [if_neg e, if_pos trivial]
      have h2 : swpF d i j j = d i := by simp only [swpF, upd]; rw [if_pos trivial]
      rw [h1, h2]
      have p1 : ∀ (x y : Tag α) (l : List (Tag α)), (x :: (l ++ [y])).Perm (y :: (l ++ [x])) := fun x y l =>
        ((List.Perm.cons x (List.perm_append_comm (l₁ := l) (l₂ := [y]))).trans (by simpa using List.Perm.swap y x l)).trans (List.Perm.cons y (List.perm_append_comm (l₁ := [x]) (l₂ := l)))
      exact p1 _ _ _
theorem swap_perm' (d : Nat → Tag α) (i j : Nat) (hij : j ≤ i) : PermOn j (i + 1) d (swpF d i j) := by
  have : swpF d i j = swpF d j i := by
    funext k
    simp only [swpF, upd]
    split <;> split <;> simp_all
  rw [this]
  exact swap_perm d j i hij

/-- All the tags at the places a .. m-1 are smaller than those at m .. b-1. -/
def TagSep (d : Nat → Tag α) (a m b : Nat) : Prop := ∀ i j, a ≤ i → i < m → m ≤ j → j < b → (d i).2 < (d j).2

/-! ### The insertion sort -/
/-- The state of the inner loop: places a .. i are in order but for place j, whose element is smaller than those behind it and younger than those ahead of it. -/
structure InsAt (c : α → α → Int) (d0 d : Nat → Tag α) (a i j : Nat) : Prop where
  perm : PermOn a (i + 1) d0 d
  rest : ∀ p q, a ≤ p → p < q → q ≤ i → p ≠ j → q ≠ j → lexLt c (d p) (d q)
  behind : ∀ q, j < q → q ≤ i → lexLt c (d j) (d q)
  young : ∀ p, a ≤ p → p < j → (d p).2 < (d j).2
theorem InsAt.start {d0 d : Nat → Tag α} {a i : Nat} (hp : PermOn a (i + 1) d0 d) (hs : SortedOn c d a i) (hy : ∀ p, a ≤ p → p < i → (d p).2 < (d i).2) : InsAt c d0 d a i i :=
  ⟨hp, fun p q h1 h2 h3 _ h5 => hs p q h1 h2 (by omega), fun q h1 h2 => by omega, hy⟩
theorem InsAt.stop (hc : IsCmp c) {d0 d : Nat → Tag α} {a i j : Nat} (h : InsAt c d0 d a i j) (hj : j ≤ i) (hs : j ≤ a ∨ ¬ c (d j).1 (d (j - 1)).1 < 0) : SortedOn c d a (i + 1) := by
  intro p q h1 h2 h3
  by_cases e1 : p = j
  · subst e1; exact h.behind q h2 (by omega)
  · by_cases e2 : q = j
    · subst e2
      rcases hs with hs | hs
      · omega
      · have hlast : lexLt c (d (q - 1)) (d q) := by
          have := hc.anti (d q).1 (d (q - 1)).1
          have := h.young (q - 1) (by omega) (by omega)
          unfold lexLt
          omega
        by_cases e3 : p = q - 1
        · subst e3; exact hlast
        · exact lexLt_trans hc (h.rest p (q - 1) h1 (by omega) (by omega) (by omega) (by omega)) hlast
    · exact h.rest p q h1 h2 (by omega) e1 e2
theorem InsAt.step {d0 d : Nat → Tag α} {a i j : Nat} (h : InsAt c d0 d a i j) (hj : j ≤ i) (haj : a < j) (hs : c (d j).1 (d (j - 1)).1 < 0) : InsAt c d0 (swpF d j (j - 1)) a i (j - 1) := by
  have h1 : swpF d j (j - 1) (j - 1) = d j := by simp only [swpF, upd]; simp
  have h2 : swpF d j (j - 1) j = d (j - 1) := by simp only [swpF, upd]; rw [if_neg (by omega), if_pos trivial]
  have h3 : ∀ k, k ≠ j → k ≠ j - 1 → swpF d j (j - 1) k = d k := fun k a b => by simp only [swpF, upd]; rw [if_neg b, if_neg a]
  refine ⟨h.perm.trans ((swap_perm' d j (j - 1) (by omega)).wider (by omega) (by omega) (by omega)), ?_, ?_, ?_⟩
  · intro p q p1 p2 p3 p4 p5
    by_cases e1 : p = j
    · subst e1
      rw [h2, h3 q (by omega) (by omega)]
      exact h.rest (p - 1) q (by omega) (by omega) p3 (by omega) (by omega)
    · by_cases e2 : q = j
      · subst e2
        rw [h2, h3 p (by omega) (by omega)]
        exact h.rest p (q - 1) p1 (by omega) (by omega) (by omega) (by omega)
      · rw [h3 p e1 p4, h3 q e2 p5]
        exact h.rest p q p1 p2 p3 e1 e2
  · intro q q1 q2
    rw [h1]
    by_cases e : q = j
    · subst e; rw [h2]; exact Or.inl hs
    · rw [h3 q e (by omega)]; exact h.behind q (by omega) q2
  · intro p p1 p2
    rw [h1, h3 p (by omega) (by omega)]
    exact h.young p p1 (by omega)

/-! ### Merging -/
/-- Two runs in order, the second younger; merged they are in order. -/
structure Merge (c : α → α → Int) (d : Nat → Tag α) (a m b : Nat) : Prop where
  left : SortedOn c d a m
  right : SortedOn c d m b
  tags : TagSep d a m b
structure Merged (c : α → α → Int) (d d' : Nat → Tag α) (a b : Nat) : Prop where
  perm : PermOn a b d d'
  sorted : SortedOn c d' a b

/-- What a right element that is not before a left one says. -/
theorem Merge.le (hc : IsCmp c) {d : Nat → Tag α} {a m b i j : Nat} (h : Merge c d a m b) (h1 : a ≤ i) (h2 : i < m) (h3 : m ≤ j) (h4 : j < b) (hs : ¬ c (d j).1 (d i).1 < 0) : lexLt c (d i) (d j) := by
  have := hc.anti (d j).1 (d i).1
  have := h.tags i j h1 h2 h3 h4
  unfold lexLt
  omega

/-- d' is d with the block a .. m-1 moved behind the block m .. b-1. -/
def Rotated (d d' : Nat → Tag α) (a m b : Nat) : Prop :=
  (∀ k, (k < a ∨ b ≤ k) → d' k = d k) ∧ (∀ k, a ≤ k → k < a + (b - m) → d' k = d (k + (m - a))) ∧ (∀ k, a + (b - m) ≤ k → k < b → d' k = d (k - (b - m)))
theorem map_range'_shift (f g : Nat → Tag α) (s t n : Nat) (h : ∀ k, k < n → f (s + k) = g (t + k)) : (List.range' s n).map f = (List.range' t n).map g := by
  apply List.ext_getElem?
  intro k
  simp only [List.getElem?_map]
  by_cases hk : k < n
  · rw [List.getElem?_range' hk, List.getElem?_range' hk]
    simp [h k hk]
  · rw [List.getElem?_eq_none (by simp; omega), List.getElem?_eq_none (by simp; omega)]
    rfl
theorem Rotated.permOn {d d' : Nat → Tag α} {a m b : Nat} (h : Rotated d d' a m b) (h1 : a ≤ m) (h2 : m ≤ b) : PermOn a b d d' := by
  refine ⟨h.1, ?_⟩
  have hl : (List.range' a (b - a)).map d = (List.range' a (m - a)).map d ++ (List.range' m (b - m)).map d := by rw [range'_split a m b h1 h2, List.map_append]
  rw [hl]
  refine List.Perm.trans ?_ (List.perm_append_comm (l₁ := (List.range' m (b - m)).map d))
  rw [range'_split a (a + (b - m)) b (by omega) (by omega), List.map_append]
  rw [show a + (b - m) - a = b - m by omega, show b - (a + (b - m)) = m - a by omega]
  rw [map_range'_shift d' d a m (b - m) (fun k hk => by rw [h.2.1 (a + k) (by omega) (by omega)]; congr 1; omega)]
  rw [map_range'_shift d' d (a + (b - m)) a (m - a) (fun k hk => by rw [h.2.2 (a + (b - m) + k) (by omega) (by omega)]; congr 1; omega)]

/-- One element ahead of a run: moved behind those that are before it. -/
theorem merged_one (hc : IsCmp c) {d d' : Nat → Tag α} {a b i : Nat} (h : Merge c d a (a + 1) b) (hb : a + 1 ≤ b) (h1 : a + 1 ≤ i) (h2 : i ≤ b) (hr : Rotated d d' a (a + 1) i)
    (hlt : ∀ k, a + 1 ≤ k → k < i → c (d k).1 (d a).1 < 0) (hge : ∀ k, i ≤ k → k < b → ¬ c (d k).1 (d a).1 < 0) : Merged c d d' a b := by
  refine ⟨(hr.permOn (by omega) h1).wider (Nat.le_refl _) h2 (by omega), ?_⟩
  have e1 : ∀ k, a ≤ k → k < i - 1 → d' k = d (k + 1) := fun k x y => by rw [hr.2.1 k x (by omega)]; congr 1; omega
  have e2 : d' (i - 1) = d a := by rw [hr.2.2 (i - 1) (by omega) (by omega)]; congr 1; omega
  have e3 : ∀ k, i ≤ k → d' k = d k := fun k x => hr.1 k (by omega)
  intro p q p1 p2 p3
  by_cases c1 : q < i - 1
  · rw [e1 p p1 (by omega), e1 q (by omega) c1]
    exact h.right _ _ (by omega) (by omega) (by omega)
  · by_cases c2 : q = i - 1
    · rw [c2, e2, e1 p p1 (by omega)]
      exact Or.inl (hlt _ (by omega) (by omega))
    · rw [e3 q (by omega)]
      by_cases c3 : p < i - 1
      · rw [e1 p p1 c3]; exact h.right _ _ (by omega) (by omega) p3
      · by_cases c4 : p = i - 1
        · rw [c4, e2]; exact h.le hc (Nat.le_refl _) (by omega) (by omega) p3 (hge q (by omega) p3)
        · rw [e3 p (by omega)]; exact h.right _ _ (by omega) p2 p3
/-- One element behind a run: moved ahead of those that it is before. -/
theorem merged_last (hc : IsCmp c) {d d' : Nat → Tag α} {a m i : Nat} (h : Merge c d a m (m + 1)) (h1 : a ≤ i) (h2 : i ≤ m) (hr : Rotated d d' i m (m + 1))
    (hge : ∀ k, a ≤ k → k < i → ¬ c (d m).1 (d k).1 < 0) (hlt : ∀ k, i ≤ k → k < m → c (d m).1 (d k).1 < 0) : Merged c d d' a (m + 1) := by
  refine ⟨(hr.permOn h2 (by omega)).wider h1 (Nat.le_refl _) (by omega), ?_⟩
  have e1 : d' i = d m := by rw [hr.2.1 i (by omega) (by omega)]; congr 1; omega
  have e2 : ∀ k, i < k → k < m + 1 → d' k = d (k - 1) := fun k x y => by rw [hr.2.2 k (by omega) y]; congr 1; omega
  have e3 : ∀ k, k < i → d' k = d k := fun k x => hr.1 k (by omega)
  intro p q p1 p2 p3
  by_cases c1 : q < i
  · rw [e3 p (by omega), e3 q c1]; exact h.left _ _ p1 p2 (by omega)
  · by_cases c2 : q = i
    · rw [c2, e1, e3 p (by omega)]
      exact h.le hc p1 (by omega) (by omega) (by omega) (hge p p1 (by omega))
    · rw [e2 q (by omega) p3]
      by_cases c3 : p < i
      · rw [e3 p c3]; exact h.left _ _ p1 (by omega) (by omega)
      · by_cases c4 : p = i
        · rw [c4, e1]; exact Or.inl (hlt _ (by omega) (by omega))
        · rw [e2 p (by omega) (by omega)]; exact h.left _ _ (by omega) (by omega) (by omega)

/-- No element in one of the two runs. -/
theorem Merge.empty_left {d : Nat → Tag α} {a b : Nat} (h : Merge c d a a b) : Merged c d d a b := ⟨PermOn.refl _ _ _, h.right⟩
theorem Merge.empty_right {d : Nat → Tag α} {a b : Nat} (h : Merge c d a b b) : Merged c d d a b := ⟨PermOn.refl _ _ _, h.left⟩

/-- What the symmetric search has found: behind the rotation there are two smaller merges, and all of the first is before all of the second. -/
theorem sym_parts (hc : IsCmp c) {d d1 : Nat → Tag α} {a m b s e mid : Nat} (h : Merge c d a m b) (h1 : a ≤ s) (h2 : s ≤ m) (h3 : m ≤ e) (h4 : e ≤ b) (hm : mid = s + (e - m)) (hr : Rotated d d1 s m e)
    (hRL : a < s → e < b → ¬ c (d e).1 (d (s - 1)).1 < 0) (hLR : s < m → m < e → c (d (e - 1)).1 (d s).1 < 0) :
    Merge c d1 a s mid ∧ Merge c d1 mid e b ∧ ∀ i j, a ≤ i → i < mid → mid ≤ j → j < b → lexLt c (d1 i) (d1 j) := by
  have e1 : ∀ k, k < s → d1 k = d k := fun k x => hr.1 k (by omega)
  have e2 : ∀ k, s ≤ k → k < mid → d1 k = d (k + (m - s)) := fun k x y => hr.2.1 k x (by omega)
  have e3 : ∀ k, mid ≤ k → k < e → d1 k = d (k - (e - m)) := fun k x y => hr.2.2 k (by omega) y
  have e4 : ∀ k, e ≤ k → d1 k = d k := fun k x => hr.1 k (by omega)
  have A : ∀ i j, a ≤ i → i < s → e ≤ j → j < b → lexLt c (d i) (d j) := by
    intro i j x1 x2 x3 x4
    have g := h.le hc (i := s - 1) (j := e) (by omega) (by omega) h3 (by omega) (hRL (by omega) (by omega))
    have g1 : lexLt c (d i) (d e) := by
      by_cases q : i = s - 1
      · rw [q]; exact g
      · exact lexLt_trans hc (h.left i (s - 1) x1 (by omega) (by omega)) g
    by_cases q : j = e
    · rw [q]; exact g1
    · exact lexLt_trans hc g1 (h.right e j h3 (by omega) x4)
  have B : ∀ i j, m ≤ i → i < e → s ≤ j → j < m → lexLt c (d i) (d j) := by
    intro i j x1 x2 x3 x4
    have g : lexLt c (d (e - 1)) (d s) := Or.inl (hLR (by omega) (by omega))
    have g1 : lexLt c (d i) (d s) := by
      by_cases q : i = e - 1
      · rw [q]; exact g
      · exact lexLt_trans hc (h.right i (e - 1) x1 (by omega) (by omega)) g
    by_cases q : j = s
    · rw [q]; exact g1
    · exact lexLt_trans hc g1 (h.left s j h1 (by omega) x4)
  refine ⟨⟨?_, ?_, ?_⟩, ⟨?_, ?_, ?_⟩, ?_⟩
  · intro i j x1 x2 x3
    rw [e1 i (by omega), e1 j x3]; exact h.left i j x1 x2 (by omega)
  · intro i j x1 x2 x3
    rw [e2 i x1 (by omega), e2 j (by omega) x3]; exact h.right _ _ (by omega) (by omega) (by omega)
  · intro i j x1 x2 x3 x4
    rw [e1 i x2, e2 j x3 x4]; exact h.tags _ _ x1 (by omega) (by omega) (by omega)
  · intro i j x1 x2 x3
    rw [e3 i x1 (by omega), e3 j (by omega) x3]; exact h.left _ _ (by omega) (by omega) (by omega)
  · intro i j x1 x2 x3
    rw [e4 i x1, e4 j (by omega)]; exact h.right _ _ (by omega) x2 x3
  · intro i j x1 x2 x3 x4
    rw [e3 i x1 x2, e4 j x3]; exact h.tags _ _ (by omega) (by omega) (by omega) x4
  · intro i j x1 x2 x3 x4
    by_cases p1 : i < s
    · rw [e1 i p1]
      by_cases p2 : j < e
      · rw [e3 j x3 p2]; exact h.left _ _ x1 (by omega) (by omega)
      · rw [e4 j (by omega)]; exact A i j x1 p1 (by omega) x4
    · rw [e2 i (by omega) x2]
      by_cases p2 : j < e
      · rw [e3 j x3 p2]; exact B _ _ (by omega) (by omega) (by omega) (by omega)
      · rw [e4 j (by omega)]; exact h.right _ _ (by omega) (by omega) x4
theorem Merge.congr {d d' : Nat → Tag α} {a m b : Nat} (h : Merge c d a m b) (he : ∀ k, a ≤ k → k < b → d' k = d k) (_ham : a ≤ m) (hmb : m ≤ b) : Merge c d' a m b := by
  refine ⟨fun i j x1 x2 x3 => ?_, fun i j x1 x2 x3 => ?_, fun i j x1 x2 x3 x4 => ?_⟩
  · rw [he i x1 (by omega), he j (by omega) (by omega)]; exact h.left i j x1 x2 x3
  · rw [he i (by omega) (by omega), he j (by omega) x3]; exact h.right i j x1 x2 x3
  · rw [he i x1 (by omega), he j (by omega) x4]; exact h.tags i j x1 x2 x3 x4
theorem sym_all {d d1 d2 d3 : Nat → Tag α} {a mid b : Nat} (h1 : a ≤ mid) (h2 : mid ≤ b) (hp : PermOn a b d d1) (hm1 : Merged c d1 d2 a mid) (hm2 : Merged c d2 d3 mid b)
    (hx : ∀ i j, a ≤ i → i < mid → mid ≤ j → j < b → lexLt c (d1 i) (d1 j)) : Merged c d d3 a b := by
  refine ⟨(hp.trans (hm1.perm.wider (Nat.le_refl _) h2 h1)).trans (hm2.perm.wider h1 (Nat.le_refl _) h2), ?_⟩
  intro p q x1 x2 x3
  by_cases c1 : q < mid
  · rw [hm2.perm.out p (by omega), hm2.perm.out q (by omega)]
    exact hm1.sorted p q x1 x2 c1
  · by_cases c2 : p < mid
    · rw [hm2.perm.out p (by omega)]
      obtain ⟨i, i1, i2, ei⟩ := hm1.perm.mem x1 c2
      obtain ⟨j, j1, j2, ej⟩ := hm2.perm.mem (k := q) (by omega) x3
      rw [ei, ej, hm1.perm.out j (by omega)]
      exact hx i j i1 i2 j1 j2
    · exact hm2.sorted p q (by omega) x2 x3

/-! ### Moving one element; exchanging blocks; rotating -/
theorem rotated_nil_left (d : Nat → Tag α) (a b : Nat) : Rotated d d a a b := ⟨fun _ _ => rfl, fun k _ _ => by simp, fun k x y => by omega⟩
theorem rotated_nil_right (d : Nat → Tag α) (a b : Nat) : Rotated d d a b b := ⟨fun _ _ => rfl, fun k _ _ => by omega, fun k x y => by simp⟩
theorem rotated_up {d dk : Nat → Tag α} {a k : Nat} (h : Rotated d dk a (a + 1) (k + 1)) (hk : a ≤ k) : Rotated d (swpF dk k (k + 1)) a (a + 1) (k + 2) := by
  refine ⟨fun q hq => ?_, fun q h1 h2 => ?_, fun q h1 h2 => ?_⟩ <;> simp only [swpF, upd]
  · rw [if_neg (by omega), if_neg (by omega)]; exact h.1 q (by omega)
  · rw [if_neg (by omega)]
    by_cases e : q = k
    · rw [if_pos e, h.1 (k + 1) (by omega)]; congr 1; omega
    · rw [if_neg e, h.2.1 q h1 (by omega)]
  · rw [if_pos (by omega), h.2.2 k (by omega) (by omega)]; congr 1; omega
theorem rotated_down {d dk : Nat → Tag α} {m k : Nat} (h : Rotated d dk k m (m + 1)) (hk : k ≤ m) (h0 : 0 < k) : Rotated d (swpF dk k (k - 1)) (k - 1) m (m + 1) := by
  refine ⟨fun q hq => ?_, fun q h1 h2 => ?_, fun q h1 h2 => ?_⟩ <;> simp only [swpF, upd]
  · rw [if_neg (by omega), if_neg (by omega)]; exact h.1 q (by omega)
  · rw [if_pos (by omega), h.2.1 k (by omega) (by omega)]; congr 1; omega
  · rw [if_neg (by omega)]
    by_cases e : q = k
    · rw [if_pos e, h.1 (k - 1) (by omega)]; congr 1; omega
    · rw [if_neg e, h.2.2 q (by omega) h2]

def Swapped (d d' : Nat → Tag α) (a b n : Nat) : Prop :=
  ∀ k, d' k = if a ≤ k ∧ k < a + n then d (k + (b - a)) else if b ≤ k ∧ k < b + n then d (k - (b - a)) else d k
theorem swapped_zero (d : Nat → Tag α) (a b : Nat) : Swapped d d a b 0 := fun k => by rw [if_neg (by omega), if_neg (by omega)]
theorem swapped_step {d dk : Nat → Tag α} {a b i : Nat} (h : Swapped d dk a b i) (hab : a + (i + 1) ≤ b) : Swapped d (swpF dk (a + i) (b + i)) a b (i + 1) := by
  intro k
  simp only [swpF, upd]
  by_cases e1 : k = b + i
  · rw [if_pos e1, h (a + i), if_neg (by omega), if_neg (by omega), if_neg (by omega), if_pos (by omega)]; congr 1; omega
  · rw [if_neg e1]
    by_cases e2 : k = a + i
    · rw [if_pos e2, h (b + i), if_neg (by omega), if_neg (by omega), if_pos (by omega)]; congr 1; omega
    · rw [if_neg e2, h k]
      by_cases c1 : a ≤ k ∧ k < a + i
      · rw [if_pos c1, if_pos (by omega)]
      · rw [if_neg c1]
        have c1' : ¬ (a ≤ k ∧ k < a + (i + 1)) := by omega
        rw [if_neg c1']
        by_cases c2 : b ≤ k ∧ k < b + i
        · rw [if_pos c2, if_pos (by omega)]
        · rw [if_neg c2, if_neg (by omega)]
theorem rot_eq {d d1 : Nat → Tag α} {m i : Nat} (h : Swapped d d1 (m - i) m i) (hi : i ≤ m) : Rotated d d1 (m - i) m (m + i) := by
  refine ⟨fun k hk => ?_, fun k h1 h2 => ?_, fun k h1 h2 => ?_⟩ <;> rw [h k]
  · rw [if_neg (by omega), if_neg (by omega)]
  · rw [if_pos (by omega)]
  · rw [if_neg (by omega), if_pos (by omega)]; congr 1; omega
theorem rot_gt {d d1 d2 : Nat → Tag α} {m i j : Nat} (hi : i ≤ m) (hij : j < i) (h : Swapped d d1 (m - i) m j) (k : Rotated d1 d2 (m - (i - j)) m (m + j)) : Rotated d d2 (m - i) m (m + j) := by
  refine ⟨fun q hq => ?_, fun q h1 h2 => ?_, fun q h1 h2 => ?_⟩
  · rw [k.1 q (by omega), h q, if_neg (by omega), if_neg (by omega)]
  · rw [k.1 q (by omega), h q, if_pos (by omega)]
  · by_cases e : q < m - (i - j) + (m + j - m)
    · rw [k.2.1 q (by omega) e, h _, if_neg (by omega)]
      by_cases e2 : m ≤ q + (m - (m - (i - j)))
      · rw [if_pos (by omega)]; congr 1; omega
      · rw [if_neg (by omega)]; omega
    · rw [k.2.2 q (by omega) h2, h _, if_neg (by omega), if_neg (by omega)]
theorem rot_lt {d d1 d2 : Nat → Tag α} {m i j : Nat} (hi : i ≤ m) (hij : i < j) (h : Swapped d d1 (m - i) (m + j - i) i) (k : Rotated d1 d2 (m - i) m (m + (j - i))) : Rotated d d2 (m - i) m (m + j) := by
  refine ⟨fun q hq => ?_, fun q h1 h2 => ?_, fun q h1 h2 => ?_⟩
  · rw [k.1 q (by omega), h q, if_neg (by omega), if_neg (by omega)]
  · by_cases e : q < m - i + (m + (j - i) - m)
    · rw [k.2.1 q (by omega) e, h _, if_neg (by omega), if_neg (by omega)]
    · by_cases e2 : q < m + (j - i)
      · rw [k.2.2 q (by omega) e2, h _, if_pos (by omega)]; congr 1; omega
      · omega
  · by_cases e2 : q < m + (j - i)
    · omega
    · rw [k.1 q (by omega), h q, if_neg (by omega), if_pos (by omega)]; congr 1; omega
end Go.Proofs.YtdpllfgnppeneaaGreatDoor.Srt

set_option linter.unusedVariables false
set_option linter.unusedSimpArgs false
namespace Go.Proofs.YtdpllfgnppeneaaGreatDoor.Srt
open Go.Proofs.YtdpllfgnppeneaaGreatDoor.Col Go.Proofs.YtdpllfgnppeneaaGreatDoor
variable {α : Type} {c : α → α → Int}
/-! ### The stable sort: runs of one length, then of twice that length -/
def TagIn (d : Nat → Tag α) (lo hi : Nat) : Prop := ∀ k, lo ≤ k → k < hi → lo ≤ (d k).2 ∧ (d k).2 < hi
structure Run (c : α → α → Int) (d : Nat → Tag α) (lo hi : Nat) : Prop where
  sorted : SortedOn c d lo hi
  tags : TagIn d lo hi
theorem Run.congr {d d' : Nat → Tag α} {lo hi : Nat} (h : Run c d lo hi) (he : ∀ k, lo ≤ k → k < hi → d' k = d k) : Run c d' lo hi :=
  ⟨fun i j h1 h2 h3 => by rw [he i h1 (by omega), he j (by omega) h3]; exact h.sorted i j h1 h2 h3, fun k h1 h2 => by rw [he k h1 h2]; exact h.tags k h1 h2⟩
theorem Run.merge {d : Nat → Tag α} {a m b : Nat} (h1 : Run c d a m) (h2 : Run c d m b) : Merge c d a m b :=
  ⟨h1.sorted, h2.sorted, fun i j x1 x2 x3 x4 => by have := (h1.tags i x1 x2).2; have := (h2.tags j x3 x4).1; omega⟩
theorem Merged.run {d d' : Nat → Tag α} {a m b : Nat} (h1 : Run c d a m) (h2 : Run c d m b) (_ham : a ≤ m) (_hmb : m ≤ b) (h : Merged c d d' a b) : Run c d' a b :=
  ⟨h.sorted, fun k x1 x2 => by
    obtain ⟨j, j1, j2, e⟩ := h.perm.mem x1 x2
    rw [e]
    by_cases q : j < m
    · have := h1.tags j j1 q; omega
    · have := h2.tags j (by omega) j2; omega⟩
def Done (c : α → α → Int) (d : Nat → Tag α) (B q : Nat) : Prop := ∀ p, p < q → Run c d (p * B) (p * B + B)
def Todo (c : α → α → Int) (d : Nat → Tag α) (B n q : Nat) : Prop := ∀ p, q ≤ p → p * B < n → Run c d (p * B) (min (p * B + B) n)
theorem mul_step {p q B : Nat} (h : p < q) : p * B + B ≤ q * B := by
  have := Nat.mul_le_mul_right B (Nat.succ_le_of_lt h)
  rw [Nat.succ_mul] at this
  exact this
theorem mul_two (q B : Nat) : (2 * q) * B = q * (2 * B) := by rw [Nat.mul_comm 2 q, Nat.mul_assoc]
theorem mul_two1 (q B : Nat) : (2 * q + 1) * B = q * (2 * B) + B := by rw [Nat.succ_mul, mul_two]
theorem pair_merge {d : Nat → Tag α} {B n q A : Nat} (ht : Todo c d B n (2 * q)) (hA : A = q * (2 * B)) (hB : 1 ≤ B) (h : A + 2 * B ≤ n) : Run c d A (A + B) ∧ Run c d (A + B) (A + 2 * B) := by
  have h1 := ht (2 * q) (Nat.le_refl _) (by rw [mul_two]; omega)
  have h2 := ht (2 * q + 1) (by omega) (by rw [mul_two1]; omega)
  rw [mul_two, ← hA] at h1
  rw [mul_two1, ← hA] at h2
  rw [show min (A + B) n = A + B by omega] at h1
  rw [show min (A + B + B) n = A + 2 * B by omega] at h2
  exact ⟨h1, h2⟩
theorem pair_next {d d' : Nat → Tag α} {B n q A : Nat} (hd : Done c d (2 * B) q) (ht : Todo c d B n (2 * q)) (hA : A = q * (2 * B)) (hB : 1 ≤ B) (h : A + 2 * B ≤ n) (hm : Merged c d d' A (A + 2 * B)) :
    Done c d' (2 * B) (q + 1) ∧ Todo c d' B n (2 * (q + 1)) := by
  obtain ⟨r1, r2⟩ := pair_merge ht hA hB h
  constructor
  · intro p hp
    by_cases e : p = q
    · subst e; rw [← hA]; exact hm.run r1 r2 (by omega) (by omega)
    · have hpq : p < q := by omega
      have := mul_step (B := 2 * B) hpq
      exact (hd p hpq).congr fun k _ h2 => hm.perm.out k (by omega)
  · intro p hp hlt
    have h1 : (2 * (q + 1)) * B ≤ p * B := Nat.mul_le_mul_right B hp
    rw [mul_two, Nat.succ_mul] at h1
    exact (ht p (by omega) hlt).congr fun k h2 _ => hm.perm.out k (by omega)
theorem last_merge {d : Nat → Tag α} {B n q A : Nat} (ht : Todo c d B n (2 * q)) (hA : A = q * (2 * B)) (h1 : A + B < n) (h2 : n < A + 2 * B) : Run c d A (A + B) ∧ Run c d (A + B) n := by
  have g1 := ht (2 * q) (Nat.le_refl _) (by rw [mul_two]; omega)
  have g2 := ht (2 * q + 1) (by omega) (by rw [mul_two1]; omega)
  rw [mul_two, ← hA] at g1
  rw [mul_two1, ← hA] at g2
  rw [show min (A + B) n = A + B by omega] at g1
  rw [show min (A + B + B) n = n by omega] at g2
  exact ⟨g1, g2⟩
theorem last_next {d d' : Nat → Tag α} {B n q A : Nat} (hd : Done c d (2 * B) q) (ht : Todo c d B n (2 * q)) (hA : A = q * (2 * B)) (h1 : A + B < n) (h2 : n < A + 2 * B) (hm : Merged c d d' A n) : Todo c d' (2 * B) n 0 := by
  obtain ⟨r1, r2⟩ := last_merge ht hA h1 h2
  intro p _ hlt
  by_cases e : p = q
  · subst e
    rw [← hA, show min (A + 2 * B) n = n by omega]
    exact hm.run r1 r2 (by omega) (by omega)
  · by_cases hpq : p < q
    · have := mul_step (B := 2 * B) hpq
      rw [show min (p * (2 * B) + 2 * B) n = p * (2 * B) + 2 * B by omega]
      exact (hd p hpq).congr fun k _ h2 => hm.perm.out k (by omega)
    · have := mul_step (B := 2 * B) (p := q) (q := p) (by omega)
      omega
theorem last_skip {d : Nat → Tag α} {B n q A : Nat} (hd : Done c d (2 * B) q) (ht : Todo c d B n (2 * q)) (hA : A = q * (2 * B)) (hAn : A ≤ n) (h1 : n ≤ A + B) : Todo c d (2 * B) n 0 := by
  intro p _ hlt
  by_cases e : p = q
  · subst e
    have g1 := ht (2 * p) (Nat.le_refl _) (by rw [mul_two]; omega)
    rw [mul_two, ← hA] at g1
    rw [← hA, show min (A + 2 * B) n = min (A + B) n by omega]
    exact g1
  · by_cases hpq : p < q
    · have := mul_step (B := 2 * B) hpq
      rw [show min (p * (2 * B) + 2 * B) n = p * (2 * B) + 2 * B by omega]
      exact hd p hpq
    · have := mul_step (B := 2 * B) (p := q) (q := p) (by omega)
      omega
theorem todo_all {d : Nat → Tag α} {B n : Nat} (ht : Todo c d B n 0) (h : n ≤ B) : SortedOn c d 0 n := by
  by_cases h0 : 0 < n
  · have := (ht 0 (Nat.le_refl _) (by omega)).sorted
    rw [Nat.zero_mul, Nat.zero_add, show min B n = n by omega] at this
    exact this
  · intro i j _ h2 h3; omega
theorem tagIn_ins {d0 d d' : Nat → Tag α} {a b : Nat} (h0 : ∀ k, (d0 k).2 = k) (he : ∀ k, a ≤ k → d k = d0 k) (hp : PermOn a b d d') : TagIn d' a b := fun k h1 h2 => by
  obtain ⟨j, j1, j2, e⟩ := hp.mem h1 h2
  rw [e, he j j1, h0 j]
  exact ⟨j1, j2⟩
theorem blocks_next {d0 d d' : Nat → Tag α} {B q A : Nat} (h0 : ∀ k, (d0 k).2 = k) (hd : Done c d B q) (hA : A = q * B) (he : ∀ k, A ≤ k → d k = d0 k) (hp : PermOn A (A + B) d d') (hs : SortedOn c d' A (A + B)) :
    Done c d' B (q + 1) ∧ ∀ k, A + B ≤ k → d' k = d0 k := by
  refine ⟨fun p h => ?_, fun k hk => by rw [hp.out k (by omega)]; exact he k (by omega)⟩
  by_cases e : p = q
  · subst e; rw [← hA]; exact ⟨hs, tagIn_ins h0 he hp⟩
  · have hpq : p < q := by omega
    have := mul_step (B := B) hpq
    exact (hd p hpq).congr fun k _ h2 => hp.out k (by omega)
theorem blocks_last {d0 d d' : Nat → Tag α} {B q A n : Nat} (h0 : ∀ k, (d0 k).2 = k) (hd : Done c d B q) (hA : A = q * B) (hAn : A ≤ n) (hn : n < A + B) (he : ∀ k, A ≤ k → d k = d0 k) (hp : PermOn A n d d') (hs : SortedOn c d' A n) :
    Todo c d' B n 0 := by
  intro p _ hlt
  by_cases e : p = q
  · subst e
    rw [← hA, show min (A + B) n = n by omega]
    exact ⟨hs, tagIn_ins h0 he hp⟩
  · by_cases hpq : p < q
    · have := mul_step (B := B) hpq
      rw [show min (p * B + B) n = p * B + B by omega]
      exact (hd p hpq).congr fun k _ h2 => hp.out k (by omega)
    · have := mul_step (B := B) (p := q) (q := p) (by omega)
      omega

/-! ### There is one order only -/
theorem sorted_unique (hc : IsCmp c) : ∀ {l m : List (Tag α)}, l.Perm m → l.Pairwise (lexLt c) → m.Pairwise (lexLt c) → l = m
  | [], m, hp, _, _ => by rw [List.nil_perm.1 hp]
  | x :: l, [], hp, _, _ => by have := hp.length_eq; simp at this
  | x :: l, y :: m, hp, h1, h2 => by
    rw [List.pairwise_cons] at h1 h2
    have e : x = y := by
      have hx : x ∈ y :: m := hp.mem_iff.1 (List.mem_cons_self)
      have hy : y ∈ x :: l := hp.mem_iff.2 (List.mem_cons_self)
      rcases List.mem_cons.1 hx with e | hx
      · exact e
      · rcases List.mem_cons.1 hy with e | hy
        · exact e.symm
        · exact absurd (h2.1 x hx) (lexLt_asymm hc (h1.1 y hy))
    subst e
    rw [sorted_unique hc (List.Perm.cons_inv hp) h1.2 h2.2]
/-- The first n elements as a list. -/
def listOf (d : Nat → Tag α) (n : Nat) : List (Tag α) := (List.range n).map d
theorem listOf_pairwise {d : Nat → Tag α} {n : Nat} (h : SortedOn c d 0 n) : (listOf d n).Pairwise (lexLt c) := by
  unfold listOf
  rw [List.pairwise_map, List.pairwise_iff_getElem]
  intro i j hi hj hij
  simp at hi hj ⊢
  exact h i j (Nat.zero_le _) hij hj
theorem listOf_perm {d d' : Nat → Tag α} {n : Nat} (h : PermOn 0 n d d') : (listOf d' n).Perm (listOf d n) := by
  have := h.perm
  simpa [listOf, List.range_eq_range'] using this
/-- A list, told as tagged elements. -/
def tagged [Inhabited α] (xs : List α) : Nat → Tag α := fun k => (xs.getD k default, k)
theorem listOf_tagged [Inhabited α] (xs : List α) : listOf (tagged xs) xs.length = xs.zipIdx := by
  unfold listOf tagged
  apply List.ext_getElem?
  intro k
  simp only [List.getElem?_map]
  by_cases hk : k < xs.length
  · rw [List.getElem?_range hk]
    simp [List.getElem?_zipIdx, hk]
  · rw [List.getElem?_eq_none (by simp; omega), List.getElem?_eq_none (by simp; omega)]
    rfl
/-- ys is xs in order, equal elements in the order in which they were. -/
def StableOf (c : α → α → Int) (xs ys : List α) : Prop := ∃ p : List (Tag α), p.Perm xs.zipIdx ∧ p.Pairwise (lexLt c) ∧ p.map (·.1) = ys
theorem StableOf.unique (hc : IsCmp c) {xs ys zs : List α} (h1 : StableOf c xs ys) (h2 : StableOf c xs zs) : ys = zs := by
  obtain ⟨p, p1, p2, p3⟩ := h1
  obtain ⟨q, q1, q2, q3⟩ := h2
  rw [← p3, ← q3, sorted_unique hc (p1.trans q1.symm) p2 q2]
theorem stableOf_of [Inhabited α] {xs : List α} {d : Nat → Tag α} (hp : PermOn 0 xs.length (tagged xs) d) (hs : SortedOn c d 0 xs.length) : StableOf c xs ((listOf d xs.length).map (·.1)) :=
  ⟨_, by rw [← listOf_tagged]; exact listOf_perm hp, listOf_pairwise hs, rfl⟩
theorem StableOf.perm {xs ys : List α} (h : StableOf c xs ys) : ys.Perm xs := by
  obtain ⟨p, p1, _, rfl⟩ := h
  have := p1.map (·.1)
  rwa [List.zipIdx_map_fst] at this
theorem StableOf.sorted {xs ys : List α} (h : StableOf c xs ys) : ys.Pairwise (fun x y => c x y ≤ 0) := by
  obtain ⟨p, _, p2, rfl⟩ := h
  rw [List.pairwise_map]
  exact p2.imp fun h => by unfold lexLt at h; omega
end Go.Proofs.YtdpllfgnppeneaaGreatDoor.Srt

/-
  PLAIN LAW: one insertion from the right, behind all that are not greater, is a step of the stable sort. No program in sight.
-/
set_option linter.unusedVariables false
namespace Go.Proofs.YtdpllfgnppeneaaGreatDoor.Srt
open Go.Proofs.YtdpllfgnppeneaaGreatDoor.Col
variable {α : Type} {c : α → α → Int}

theorem stable_nil : StableOf c ([] : List α) [] := ⟨[], by simp, List.Pairwise.nil, rfl⟩
theorem stable_insert (hc : IsCmp c) {l : List α} {k at_ : Nat} {x : α} {ys : List α} (h : StableOf c (l.take k) ys) (hx : l[k]? = some x) (hat : at_ ≤ ys.length)
    (h1 : ∀ y, 0 < at_ → ys[at_ - 1]? = some y → 0 ≤ c x y) (h2 : ∀ j y, at_ ≤ j → ys[j]? = some y → c x y < 0) : StableOf c (l.take (k + 1)) (ys.take at_ ++ x :: ys.drop at_) := by
  obtain ⟨p, p1, p2, rfl⟩ := h
  have hk : k < l.length := (List.getElem?_eq_some_iff.1 hx).1
  have hxk : l[k] = x := (List.getElem?_eq_some_iff.1 hx).2
  rw [List.length_map] at hat
  have htag : ∀ q, q ∈ p → q.2 < k := fun q hq => by
    have := p1.mem_iff.1 hq
    have := (List.mem_zipIdx_iff_getElem?.1 this)
    have h3 := (List.getElem?_eq_some_iff.1 this).1
    rw [List.length_take] at h3
    omega
  refine ⟨p.take at_ ++ (x, k) :: p.drop at_, ?_, ?_, ?_⟩
  · have e : (l.take (k + 1)).zipIdx = (l.take k).zipIdx ++ [(x, k)] := by
      rw [List.take_succ_eq_append_getElem hk, List.zipIdx_append, hxk]
      simp [Nat.min_eq_left (Nat.le_of_lt hk)]
    rw [e]
    refine List.Perm.trans List.perm_middle ?_
    rw [List.take_append_drop]
    exact (List.perm_append_singleton (x, k) p).symm.trans (p1.append_right _)
  · have hp := p2
    rw [← List.take_append_drop at_ p, List.pairwise_append] at hp
    rw [List.pairwise_append]
    have hleft : ∀ q, q ∈ p.take at_ → c q.1 x ≤ 0 := by
      intro q hq
      have h0 : 0 < at_ := by
        rcases Nat.eq_zero_or_pos at_ with e | e
        · subst e; simp at hq
        · exact e
      have hl : at_ - 1 < p.length := by omega
      have hy := h1 (p[at_ - 1].1) h0 (by rw [List.getElem?_map, List.getElem?_eq_getElem hl]; rfl)
      have hy' : c p[at_ - 1].1 x ≤ 0 := by
        have := hc.anti x p[at_ - 1].1
        omega
      obtain ⟨j, hj⟩ := List.getElem?_of_mem hq
      rw [List.getElem?_take] at hj
      split at hj
      · rename_i hja
        obtain ⟨hjl, rfl⟩ := List.getElem?_eq_some_iff.1 hj
        by_cases e : j = at_ - 1
        · subst e; exact hy'
        · have h3 := List.pairwise_iff_getElem.1 p2 j (at_ - 1) hjl hl (by omega)
          have h4 : c p[j].1 p[at_ - 1].1 ≤ 0 := by unfold lexLt at h3; omega
          have := hc.trans _ _ _ h4 hy'
          omega
      · cases hj
    have hright : ∀ q, q ∈ p.drop at_ → c x q.1 < 0 := by
      intro q hq
      obtain ⟨j, hj⟩ := List.getElem?_of_mem hq
      rw [List.getElem?_drop] at hj
      exact h2 (at_ + j) q.1 (by omega) (by rw [List.getElem?_map, hj]; rfl)
    refine ⟨hp.1, List.pairwise_cons.2 ⟨fun q hq => .inl (hright q hq), hp.2.1⟩, ?_⟩
    intro q hq r hr
    rcases List.mem_cons.1 hr with rfl | hr
    · have h3 := hleft q hq
      have h4 := htag q (List.mem_of_mem_take hq)
      unfold lexLt
      simp only
      omega
    · exact hp.2.2 q hq r hr
  · simp [List.map_append, List.map_take, List.map_drop]
end Go.Proofs.YtdpllfgnppeneaaGreatDoor.Srt
