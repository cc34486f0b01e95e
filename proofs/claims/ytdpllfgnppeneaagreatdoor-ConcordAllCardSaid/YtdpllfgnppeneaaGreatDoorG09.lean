import Derived.Test.YtdpllfgnppeneaaGreatDoorG06
import Derived.Test.YtdpllfgnppeneaaGreatDoorG08
import Derived.Test.YtdpllfgnppeneaaGreatDoorG01
import Derived.Lib.Small
import Derived.Test.YtdpllfgnppeneaaGreatDoorG00
import Derived.Deep.MidRow
import Derived.Deep.Upon
/-
  PLAIN LAW: the notes of a tier that have one parent, in their order; the line of a note. No program in sight.
-/
set_option linter.unusedVariables false
set_option linter.unusedSimpArgs false
namespace Go.Proofs.YtdpllfgnppeneaaGreatDoor
open Go.RowKit Ru Lay Srt Col

theorem cmpInt_is : IsCmp Lib.compareInt := ⟨fun x y => by unfold Lib.compareInt; split <;> split <;> omega, fun x y z => by
  unfold Lib.compareInt
  split <;> split <;> split <;> (try split) <;> (try split) <;> (try split) <;> omega⟩
theorem orI_cons (x : Int) (l : List Int) : orI (x :: l) = if x = 0 then orI l else x := by
  unfold orI
  by_cases h : x = 0
  · rw [List.find?_cons_of_neg (by simpa using h), if_pos h]
  · rw [List.find?_cons_of_pos (by simpa using h), if_neg h]
    rfl
theorem or_is {α : Type} {c d : α → α → Int} (h : IsCmp c) (k : IsCmp d) : IsCmp (fun x y => if c x y = 0 then d x y else c x y) := by
  refine ⟨fun x y => ?_, fun x y z => ?_⟩
  · have h1 := h.anti x y
    have h2 := k.anti x y
    show (if c y x = 0 then _ else _) = - (if c x y = 0 then _ else _)
    split <;> split <;> omega
  · have h1 := h.trans x y z
    have h2 := k.trans x y z
    show (if c x y = 0 then _ else _) ≤ 0 → (if c y z = 0 then _ else _) ≤ 0 → (if c x z = 0 then _ else _) ≤ 0 ∧ ((if c x z = 0 then _ else _) = 0 → (if c x y = 0 then _ else _) = 0 ∧ (if c y z = 0 then _ else _) = 0)
    split <;> split <;> split <;> omega
theorem zero_is {α : Type} : IsCmp (fun _ _ : α => (0 : Int)) := ⟨fun _ _ => rfl, fun _ _ _ _ _ => ⟨Int.le_refl _, fun _ => ⟨rfl, rfl⟩⟩⟩
theorem isCmp_congr {α : Type} {c d : α → α → Int} (h : IsCmp c) (e : ∀ x y, d x y = c x y) : IsCmp d := by
  have : d = c := funext fun x => funext fun y => e x y
  rw [this]; exact h
/-- How the program orders notes. -/
def ordN (a b : Nt) : Int := orI [Lib.compareInt a.parent b.parent, Lib.compareInt a.at1 b.at1, Lib.compareInt a.rank b.rank]
theorem ordN_is : IsCmp ordN := by
  have h1 : IsCmp fun a b : Nt => Lib.compareInt a.parent b.parent := cmpInt_is.comap Nt.parent
  have h2 : IsCmp fun a b : Nt => Lib.compareInt a.at1 b.at1 := cmpInt_is.comap Nt.at1
  have h3 : IsCmp fun a b : Nt => Lib.compareInt a.rank b.rank := cmpInt_is.comap Nt.rank
  refine isCmp_congr (or_is h1 (or_is h2 (or_is h3 zero_is))) fun x y => ?_
  unfold ordN
  rw [orI_cons, orI_cons, orI_cons]
  rfl
/-- The notes of a tier (of tn tiers) with a parent. -/
def sibs (tn : Nat) (l : List Nt) (id tier : Int) : List Nt := l.filter fun n => decide (n.tier = tier ∧ n.parent = id ∧ 0 ≤ tier ∧ tier < (tn : Int))
theorem sibs_next {tn : Nat} {l : List Nt} {id tier : Int} {i : Nat} {x : Nt} (hx : l[i]? = some x) : sibs tn (l.take (i + 1)) id tier = sibs tn (l.take i) id tier ++ (if x.tier = tier ∧ x.parent = id ∧ 0 ≤ tier ∧ tier < (tn : Int) then [x] else []) := by
  unfold sibs
  rw [take_at2 hx, List.filter_append, List.filter_cons]
  simp
theorem sibs_len {tn : Nat} {l : List Nt} {id tier : Int} : (sibs tn l id tier).length ≤ l.length := List.length_filter_le _ _
/-- Put behind all that are not greater. -/
def insN (x : Nt) : List Nt → List Nt
  | [] => [x]
  | y :: l => if ordN x y < 0 then x :: y :: l else y :: insN x l
def sortN : List Nt → List Nt := fun l => l.foldl (fun acc x => insN x acc) []
theorem insN_perm (x : Nt) : ∀ l, (insN x l).Perm (x :: l)
  | [] => List.Perm.refl _
  | y :: l => by
    unfold insN
    split
    · exact List.Perm.refl _
    · exact ((insN_perm x l).cons y).trans (List.Perm.swap x y l)
theorem insN_split (x : Nt) : ∀ l, ∃ k, k ≤ l.length ∧ insN x l = l.take k ++ x :: l.drop k ∧ (∀ j y, j < k → l[j]? = some y → 0 ≤ ordN x y) ∧ (∀ y, l[k]? = some y → ordN x y < 0)
  | [] => ⟨0, Nat.le_refl _, rfl, fun j y h => by omega, fun y h => by simp at h⟩
  | y :: l => by
    unfold insN
    split
    · rename_i h
      exact ⟨0, Nat.zero_le _, rfl, fun j z hj => by omega, fun z hz => by simp at hz; subst hz; exact h⟩
    · rename_i h
      obtain ⟨k, h1, h2, h3, h4⟩ := insN_split x l
      refine ⟨k + 1, by simpa using h1, by rw [h2]; rfl, fun j z hj hz => ?_, fun z hz => by rw [List.getElem?_cons_succ] at hz; exact h4 z hz⟩
      cases j with
      | zero => simp at hz; subst hz; omega
      | succ j => rw [List.getElem?_cons_succ] at hz; exact h3 j z (by omega) hz
theorem sortN_stable (l : List Nt) : ∀ k, k ≤ l.length → StableOf ordN (l.take k) (sortN (l.take k))
  | 0, _ => by rw [List.take_zero]; exact stable_nil
  | k + 1, h => by
    have ih := sortN_stable l k (by omega)
    have hx : l[k]? = some l[k] := List.getElem?_eq_getElem (by omega)
    obtain ⟨at_, h1, h2, h3, h4⟩ := insN_split l[k] (sortN (l.take k))
    have e : sortN (l.take (k + 1)) = insN l[k] (sortN (l.take k)) := by unfold sortN; rw [take_at2 hx, List.foldl_append]; rfl
    rw [e, h2]
    refine stable_insert ordN_is ih hx h1 (fun y h0 hy => h3 _ y (by omega) hy) (fun j y hj hy => ?_)
    by_cases e2 : j = at_
    · subst e2; exact h4 y hy
    · obtain ⟨hj2, hyj⟩ := List.getElem?_eq_some_iff.1 hy
      have hk2 : at_ < (sortN (l.take k)).length := by omega
      have g1 := h4 _ (List.getElem?_eq_getElem hk2)
      have g2 : ordN (sortN (l.take k))[at_] y ≤ 0 := by
        rw [← hyj]
        exact List.pairwise_iff_getElem.1 ih.sorted at_ j hk2 hj2 (by omega)
      have g3 := ordN_is.trans l[k] (sortN (l.take k))[at_] y (by omega) g2
      omega
theorem sortN_of {l ys : List Nt} (h : StableOf ordN l ys) : ys = sortN l := by
  have h1 := sortN_stable l l.length (Nat.le_refl _)
  rw [List.take_length] at h1
  exact h.unique ordN_is h1
/-- What tiers.Kids returns. -/
def kidsL (tn : Nat) (l : List Nt) (id tier : Int) : List Int := (sortN (sibs tn l id tier)).map Nt.nid
theorem kidsL_len {tn : Nat} {l : List Nt} {id tier : Int} : (kidsL tn l id tier).length ≤ l.length := by
  unfold kidsL
  have h1 := sortN_stable (sibs tn l id tier) _ (Nat.le_refl _)
  rw [List.take_length] at h1
  rw [List.length_map, h1.perm.length_eq]
  exact sibs_len
theorem kidsL_mem {tn : Nat} {l : List Nt} {id tier z : Int} : z ∈ kidsL tn l id tier ↔ ∃ x, x ∈ sibs tn l id tier ∧ x.nid = z := by
  unfold kidsL
  have h1 := sortN_stable (sibs tn l id tier) _ (Nat.le_refl _)
  rw [List.take_length] at h1
  rw [List.mem_map]
  constructor
  · rintro ⟨x, hx, e⟩; exact ⟨x, h1.perm.mem_iff.1 hx, e⟩
  · rintro ⟨x, hx, e⟩; exact ⟨x, h1.perm.mem_iff.2 hx, e⟩
/-- The line of a note: the place of its id among its neighbors, and those around it. -/
def hitK (rid id : Int) (x : Nt) (l : List Nt) (ks : List Int) (n : Int) : Ht :=
  let at_ := (Lib.idxOf ks id).toNat
  let m := (min (max n 0) (ks.length : Int)).toNat
  { rid := rid, nid := id, left := textsN l ((ks.take at_).drop (at_ - m)), key := x.text, right := textsN l ((ks.drop (at_ + 1)).take m) }
def ht0 : Ht := { rid := 0, nid := 0, left := [], key := ⟨#[]⟩, right := [] }
def hitL (rid : Int) (tn : Nat) (l : List Nt) (id n : Int) : Option Ht := (getN l id).map fun x => hitK rid id x l (kidsL tn l x.parent x.tier) n
end Go.Proofs.YtdpllfgnppeneaaGreatDoor

/-
  How the program orders notes: tiers.order.
-/
namespace Go.Proofs.YtdpllfgnppeneaaGreatDoor
open Go.RowKit Ru Lay
attribute [local go_sem ↓] Go.wp_at_zero Go.wp_at_succ
set_option linter.unusedVariables false
set_option linter.unusedSimpArgs false

set_option maxHeartbeats 4000000 in
set_option maxRecDepth 100000 in
theorem ordN_any (a b : Nt) (w : World) : Calls Tryz.prog 36 #[noteV a, noteV b] w fun e w' => e = .returned (.int .i64 (ordN a b)) ∧ Below w.heap.size w w' := by
  unfold noteV
  go_enter Tryz.func36, Tryz.ntmps36
  go_wp2_with fail
  have HBW : Hid (Below w.heap.size w ((w.alloc (.cells #[.int .i64 a.nid, .int .i64 a.tier, .int .i64 a.parent, .int .i64 a.at1, .int .i64 a.at2, .int .i64 a.rank, .string a.text] 58)).alloc (.cells #[.int .i64 b.nid, .int .i64 b.tier, .int .i64 b.parent, .int .i64 b.at1, .int .i64 b.at2, .int .i64 b.rank, .string b.text] 58))) := ((Below.refl _ w).alloc (Nat.le_refl _) _).alloc (by simp) _
  obtain ⟨W0, hW0⟩ : ∃ W0, ((w.alloc (.cells #[.int .i64 a.nid, .int .i64 a.tier, .int .i64 a.parent, .int .i64 a.at1, .int .i64 a.at2, .int .i64 a.rank, .string a.text] 58)).alloc (.cells #[.int .i64 b.nid, .int .i64 b.tier, .int .i64 b.parent, .int .i64 b.at1, .int .i64 b.at2, .int .i64 b.rank, .string b.text] 58)) = W0 := ⟨_, rfl⟩
  have hz0 : W0.heap.size = w.heap.size + 1 + 1 := by rw [← hW0]; simp
  have Haparent : Hid (∀ W, Below W0.heap.size W0 W → W.cell? ⟨w.heap.size, 2, none⟩ = some (.int .i64 a.parent)) := fun W hW => by
    rw [hW.cell (p := ⟨w.heap.size, 2, none⟩) (by show w.heap.size < _; omega)]
    rw [← hW0, World.cell?_alloc_lt _ _ _ (by simp), World.cell?_alloc_at _ _ _ _ rfl]; rfl
  have Haat1 : Hid (∀ W, Below W0.heap.size W0 W → W.cell? ⟨w.heap.size, 3, none⟩ = some (.int .i64 a.at1)) := fun W hW => by
    rw [hW.cell (p := ⟨w.heap.size, 3, none⟩) (by show w.heap.size < _; omega)]
    rw [← hW0, World.cell?_alloc_lt _ _ _ (by simp), World.cell?_alloc_at _ _ _ _ rfl]; rfl
  have Harank : Hid (∀ W, Below W0.heap.size W0 W → W.cell? ⟨w.heap.size, 5, none⟩ = some (.int .i64 a.rank)) := fun W hW => by
    rw [hW.cell (p := ⟨w.heap.size, 5, none⟩) (by show w.heap.size < _; omega)]
    rw [← hW0, World.cell?_alloc_lt _ _ _ (by simp), World.cell?_alloc_at _ _ _ _ rfl]; rfl
  have Hbparent : Hid (∀ W, Below W0.heap.size W0 W → W.cell? ⟨w.heap.size + 1, 2, none⟩ = some (.int .i64 b.parent)) := fun W hW => by
    rw [hW.cell (p := ⟨w.heap.size + 1, 2, none⟩) (by show w.heap.size + 1 < _; omega)]
    rw [← hW0, World.cell?_alloc_at _ _ _ _ (by simp)]; rfl
  have Hbat1 : Hid (∀ W, Below W0.heap.size W0 W → W.cell? ⟨w.heap.size + 1, 3, none⟩ = some (.int .i64 b.at1)) := fun W hW => by
    rw [hW.cell (p := ⟨w.heap.size + 1, 3, none⟩) (by show w.heap.size + 1 < _; omega)]
    rw [← hW0, World.cell?_alloc_at _ _ _ _ (by simp)]; rfl
  have Hbrank : Hid (∀ W, Below W0.heap.size W0 W → W.cell? ⟨w.heap.size + 1, 5, none⟩ = some (.int .i64 b.rank)) := fun W hW => by
    rw [hW.cell (p := ⟨w.heap.size + 1, 5, none⟩) (by show w.heap.size + 1 < _; omega)]
    rw [← hW0, World.cell?_alloc_at _ _ _ _ (by simp)]; rfl
  rw [hW0] at HBW ⊢
  clear hW0
  refine wp_region_told [Told.is (.pointer (some ⟨w.heap.size, 2, none⟩)), Told.is (.int .i64 a.parent), Told.is (.pointer (some ⟨w.heap.size + 1, 2, none⟩)), Told.is (.int .i64 b.parent), Told.is (.int .i64 (Lib.compareInt a.parent b.parent)), Told.is (.pointer (some ⟨w.heap.size, 3, none⟩)), Told.is (.pointer (some ⟨w.heap.size, 3, none⟩)), Told.is (.int .i64 a.at1), Told.is (.pointer (some ⟨w.heap.size + 1, 3, none⟩)), Told.is (.pointer (some ⟨w.heap.size + 1, 3, none⟩)), Told.is (.int .i64 b.at1), Told.is (.int .i64 (Lib.compareInt a.at1 b.at1)), Told.is (.pointer (some ⟨w.heap.size, 5, none⟩)), Told.is (.int .i64 a.rank), Told.is (.pointer (some ⟨w.heap.size + 1, 5, none⟩)), Told.is (.int .i64 b.rank), Told.is (.int .i64 (Lib.compareInt a.rank b.rank)), Told.such (fun v w => ∃ A c, v = .slice A 3 c ∧ IR w w.heap.size A 3 [Lib.compareInt a.parent b.parent, Lib.compareInt a.at1 b.at1, Lib.compareInt a.rank b.rank]) (fun v w w' ⟨A, c, h1, h2⟩ hb => ⟨A, c, h1, IR.on h2 hb⟩), Told.is (.int .i64 (ordN a b)), Told.is (.int .i64 (ordN a b))] (by kernel_rfl) (by kernel_rfl) ?_ ?_
  · refine And.intro (fun w1 vals hB hd K hK => ?_) ?_
    · clear hd
      simp only [putAll, Act.put, List.setIfInBounds_toArray, List.set_cons_zero, List.set_cons_succ] at hK ⊢
      obtain ⟨ve, hve⟩ : ∃ f : Nat → Value, f = vals := ⟨_, rfl⟩
      rw [← hve] at hK  ⊢
      clear hve
      refine gwp_none rfl ?_
      go_simp
      exact hK _ _ rfl (Below.refl _ _)
    refine And.intro (fun w1 vals hB hd K hK => ?_) ?_
    · have e0 : vals 0 = .pointer (some ⟨w.heap.size, 2, none⟩) := told_at (hd 0 rfl) rfl
      clear hd
      simp only [putAll, Act.put, List.setIfInBounds_toArray, List.set_cons_zero, List.set_cons_succ] at hK ⊢
      simp only [e0] at hK ⊢
      obtain ⟨ve, hve⟩ : ∃ f : Nat → Value, f = vals := ⟨_, rfl⟩
      rw [← hve] at hK  ⊢
      clear e0 hve
      refine gwp_none rfl ?_
      have hc := Haparent.out w1 hB
      go_simp
      exact hK _ _ rfl (Below.refl _ _)
    refine And.intro (fun w1 vals hB hd K hK => ?_) ?_
    · clear hd
      simp only [putAll, Act.put, List.setIfInBounds_toArray, List.set_cons_zero, List.set_cons_succ] at hK ⊢
      obtain ⟨ve, hve⟩ : ∃ f : Nat → Value, f = vals := ⟨_, rfl⟩
      rw [← hve] at hK  ⊢
      clear hve
      refine gwp_none rfl ?_
      go_simp
      exact hK _ _ rfl (Below.refl _ _)
    refine And.intro (fun w1 vals hB hd K hK => ?_) ?_
    · have e2 : vals 2 = .pointer (some ⟨w.heap.size + 1, 2, none⟩) := told_at (hd 2 rfl) rfl
      clear hd
      simp only [putAll, Act.put, List.setIfInBounds_toArray, List.set_cons_zero, List.set_cons_succ] at hK ⊢
      simp only [e2] at hK ⊢
      obtain ⟨ve, hve⟩ : ∃ f : Nat → Value, f = vals := ⟨_, rfl⟩
      rw [← hve] at hK  ⊢
      clear e2 hve
      refine gwp_none rfl ?_
      have hc := Hbparent.out w1 hB
      go_simp
      exact hK _ _ rfl (Below.refl _ _)
    refine And.intro (fun w1 vals hB hd K hK => ?_) ?_
    · have e1 : vals 1 = .int .i64 a.parent := told_at (hd 1 rfl) rfl
      have e3 : vals 3 = .int .i64 b.parent := told_at (hd 3 rfl) rfl
      clear hd
      simp only [putAll, Act.put, List.setIfInBounds_toArray, List.set_cons_zero, List.set_cons_succ] at hK ⊢
      simp only [e1, e3] at hK ⊢
      obtain ⟨ve, hve⟩ : ∃ f : Nat → Value, f = vals := ⟨_, rfl⟩
      rw [← hve] at hK  ⊢
      clear e1 e3 hve
      refine gwp_none rfl ?_
      go_simp
      refine (Tryz.cmp_Compare_int a.parent b.parent w1).mono ?_
      rintro e w2 ⟨rfl, rfl⟩
      exact hK _ _ rfl (Below.refl _ _)
    refine And.intro (fun w1 vals hB hd K hK => ?_) ?_
    · clear hd
      simp only [putAll, Act.put, List.setIfInBounds_toArray, List.set_cons_zero, List.set_cons_succ] at hK ⊢
      obtain ⟨ve, hve⟩ : ∃ f : Nat → Value, f = vals := ⟨_, rfl⟩
      rw [← hve] at hK  ⊢
      clear hve
      refine gwp_none rfl ?_
      go_simp
      exact hK _ _ rfl (Below.refl _ _)
    refine And.intro (fun w1 vals hB hd K hK => ?_) ?_
    · have e5 : vals 5 = .pointer (some ⟨w.heap.size, 3, none⟩) := told_at (hd 5 rfl) rfl
      clear hd
      simp only [putAll, Act.put, List.setIfInBounds_toArray, List.set_cons_zero, List.set_cons_succ] at hK ⊢
      simp only [e5] at hK ⊢
      obtain ⟨ve, hve⟩ : ∃ f : Nat → Value, f = vals := ⟨_, rfl⟩
      rw [← hve] at hK  ⊢
      clear e5 hve
      refine gwp_none rfl ?_
      go_simp
      exact hK _ _ rfl (Below.refl _ _)
    refine And.intro (fun w1 vals hB hd K hK => ?_) ?_
    · have e6 : vals 6 = .pointer (some ⟨w.heap.size, 3, none⟩) := told_at (hd 6 rfl) rfl
      clear hd
      simp only [putAll, Act.put, List.setIfInBounds_toArray, List.set_cons_zero, List.set_cons_succ] at hK ⊢
      simp only [e6] at hK ⊢
      obtain ⟨ve, hve⟩ : ∃ f : Nat → Value, f = vals := ⟨_, rfl⟩
      rw [← hve] at hK  ⊢
      clear e6 hve
      refine gwp_none rfl ?_
      have hc := Haat1.out w1 hB
      go_simp
      exact hK _ _ rfl (Below.refl _ _)
    refine And.intro (fun w1 vals hB hd K hK => ?_) ?_
    · clear hd
      simp only [putAll, Act.put, List.setIfInBounds_toArray, List.set_cons_zero, List.set_cons_succ] at hK ⊢
      obtain ⟨ve, hve⟩ : ∃ f : Nat → Value, f = vals := ⟨_, rfl⟩
      rw [← hve] at hK  ⊢
      clear hve
      refine gwp_none rfl ?_
      go_simp
      exact hK _ _ rfl (Below.refl _ _)
    refine And.intro (fun w1 vals hB hd K hK => ?_) ?_
    · have e8 : vals 8 = .pointer (some ⟨w.heap.size + 1, 3, none⟩) := told_at (hd 8 rfl) rfl
      clear hd
      simp only [putAll, Act.put, List.setIfInBounds_toArray, List.set_cons_zero, List.set_cons_succ] at hK ⊢
      simp only [e8] at hK ⊢
      obtain ⟨ve, hve⟩ : ∃ f : Nat → Value, f = vals := ⟨_, rfl⟩
      rw [← hve] at hK  ⊢
      clear e8 hve
      refine gwp_none rfl ?_
      go_simp
      exact hK _ _ rfl (Below.refl _ _)
    refine And.intro (fun w1 vals hB hd K hK => ?_) ?_
    · have e9 : vals 9 = .pointer (some ⟨w.heap.size + 1, 3, none⟩) := told_at (hd 9 rfl) rfl
      clear hd
      simp only [putAll, Act.put, List.setIfInBounds_toArray, List.set_cons_zero, List.set_cons_succ] at hK ⊢
      simp only [e9] at hK ⊢
      obtain ⟨ve, hve⟩ : ∃ f : Nat → Value, f = vals := ⟨_, rfl⟩
      rw [← hve] at hK  ⊢
      clear e9 hve
      refine gwp_none rfl ?_
      have hc := Hbat1.out w1 hB
      go_simp
      exact hK _ _ rfl (Below.refl _ _)
    refine And.intro (fun w1 vals hB hd K hK => ?_) ?_
    · have e7 : vals 7 = .int .i64 a.at1 := told_at (hd 7 rfl) rfl
      have e10 : vals 10 = .int .i64 b.at1 := told_at (hd 10 rfl) rfl
      clear hd
      simp only [putAll, Act.put, List.setIfInBounds_toArray, List.set_cons_zero, List.set_cons_succ] at hK ⊢
      simp only [e7, e10] at hK ⊢
      obtain ⟨ve, hve⟩ : ∃ f : Nat → Value, f = vals := ⟨_, rfl⟩
      rw [← hve] at hK  ⊢
      clear e7 e10 hve
      refine gwp_none rfl ?_
      go_simp
      refine (Tryz.cmp_Compare_int a.at1 b.at1 w1).mono ?_
      rintro e w2 ⟨rfl, rfl⟩
      exact hK _ _ rfl (Below.refl _ _)
    refine And.intro (fun w1 vals hB hd K hK => ?_) ?_
    · clear hd
      simp only [putAll, Act.put, List.setIfInBounds_toArray, List.set_cons_zero, List.set_cons_succ] at hK ⊢
      obtain ⟨ve, hve⟩ : ∃ f : Nat → Value, f = vals := ⟨_, rfl⟩
      rw [← hve] at hK  ⊢
      clear hve
      refine gwp_none rfl ?_
      go_simp
      exact hK _ _ rfl (Below.refl _ _)
    refine And.intro (fun w1 vals hB hd K hK => ?_) ?_
    · have e12 : vals 12 = .pointer (some ⟨w.heap.size, 5, none⟩) := told_at (hd 12 rfl) rfl
      clear hd
      simp only [putAll, Act.put, List.setIfInBounds_toArray, List.set_cons_zero, List.set_cons_succ] at hK ⊢
      simp only [e12] at hK ⊢
      obtain ⟨ve, hve⟩ : ∃ f : Nat → Value, f = vals := ⟨_, rfl⟩
      rw [← hve] at hK  ⊢
      clear e12 hve
      refine gwp_none rfl ?_
      have hc := Harank.out w1 hB
      go_simp
      exact hK _ _ rfl (Below.refl _ _)
    refine And.intro (fun w1 vals hB hd K hK => ?_) ?_
    · clear hd
      simp only [putAll, Act.put, List.setIfInBounds_toArray, List.set_cons_zero, List.set_cons_succ] at hK ⊢
      obtain ⟨ve, hve⟩ : ∃ f : Nat → Value, f = vals := ⟨_, rfl⟩
      rw [← hve] at hK  ⊢
      clear hve
      refine gwp_none rfl ?_
      go_simp
      exact hK _ _ rfl (Below.refl _ _)
    refine And.intro (fun w1 vals hB hd K hK => ?_) ?_
    · have e14 : vals 14 = .pointer (some ⟨w.heap.size + 1, 5, none⟩) := told_at (hd 14 rfl) rfl
      clear hd
      simp only [putAll, Act.put, List.setIfInBounds_toArray, List.set_cons_zero, List.set_cons_succ] at hK ⊢
      simp only [e14] at hK ⊢
      obtain ⟨ve, hve⟩ : ∃ f : Nat → Value, f = vals := ⟨_, rfl⟩
      rw [← hve] at hK  ⊢
      clear e14 hve
      refine gwp_none rfl ?_
      have hc := Hbrank.out w1 hB
      go_simp
      exact hK _ _ rfl (Below.refl _ _)
    refine And.intro (fun w1 vals hB hd K hK => ?_) ?_
    · have e13 : vals 13 = .int .i64 a.rank := told_at (hd 13 rfl) rfl
      have e15 : vals 15 = .int .i64 b.rank := told_at (hd 15 rfl) rfl
      clear hd
      simp only [putAll, Act.put, List.setIfInBounds_toArray, List.set_cons_zero, List.set_cons_succ] at hK ⊢
      simp only [e13, e15] at hK ⊢
      obtain ⟨ve, hve⟩ : ∃ f : Nat → Value, f = vals := ⟨_, rfl⟩
      rw [← hve] at hK  ⊢
      clear e13 e15 hve
      refine gwp_none rfl ?_
      go_simp
      refine (Tryz.cmp_Compare_int a.rank b.rank w1).mono ?_
      rintro e w2 ⟨rfl, rfl⟩
      exact hK _ _ rfl (Below.refl _ _)
    refine And.intro (fun w1 vals hB hd K hK => ?_) ?_
    · have e4 : vals 4 = .int .i64 (Lib.compareInt a.parent b.parent) := told_at (hd 4 rfl) rfl
      have e11 : vals 11 = .int .i64 (Lib.compareInt a.at1 b.at1) := told_at (hd 11 rfl) rfl
      have e16 : vals 16 = .int .i64 (Lib.compareInt a.rank b.rank) := told_at (hd 16 rfl) rfl
      clear hd
      simp only [putAll, Act.put, List.setIfInBounds_toArray, List.set_cons_zero, List.set_cons_succ] at hK ⊢
      simp only [e4, e11, e16] at hK ⊢
      obtain ⟨ve, hve⟩ : ∃ f : Nat → Value, f = vals := ⟨_, rfl⟩
      rw [← hve] at hK  ⊢
      clear e4 e11 e16 hve
      refine gwp_none rfl ?_
      go_simp
      exact hK _ _ ⟨_, _, rfl, ir_new w1 3 [Lib.compareInt a.parent b.parent, Lib.compareInt a.at1 b.at1, Lib.compareInt a.rank b.rank] _ rfl _ rfl⟩ (below_new _ _)
    refine And.intro (fun w1 vals hB hd K hK => ?_) ?_
    · have p17 := told_at (t := Told.such (fun v w => ∃ A c, v = .slice A 3 c ∧ IR w w.heap.size A 3 [Lib.compareInt a.parent b.parent, Lib.compareInt a.at1 b.at1, Lib.compareInt a.rank b.rank]) (fun v w w' ⟨A, c, h1, h2⟩ hb => ⟨A, c, h1, IR.on h2 hb⟩)) (hd 17 rfl) rfl
      simp only [Told.holds] at p17
      clear hd
      obtain ⟨x17, hx17⟩ : ∃ x, vals 17 = x := ⟨_, rfl⟩
      rw [hx17] at p17
      simp only [putAll, Act.put, List.setIfInBounds_toArray, List.set_cons_zero, List.set_cons_succ] at hK ⊢
      simp only [hx17] at hK ⊢
      obtain ⟨ve, hve⟩ : ∃ f : Nat → Value, f = vals := ⟨_, rfl⟩
      rw [← hve] at hK  ⊢
      clear hx17 hve
      refine gwp_none rfl ?_
      obtain ⟨A, c, rfl, hir⟩ := p17
      go_simp
      refine (cmpOr_any A 3 c [Lib.compareInt a.parent b.parent, Lib.compareInt a.at1 b.at1, Lib.compareInt a.rank b.rank] w1 hir (by omega)).mono ?_
      rintro e w2 ⟨rfl, rfl⟩
      exact hK _ _ rfl (Below.refl _ _)
    refine And.intro (fun w1 vals hB hd K hK => ?_) ?_
    · have e18 : vals 18 = .int .i64 (ordN a b) := told_at (hd 18 rfl) rfl
      clear hd
      simp only [putAll, Act.put, List.setIfInBounds_toArray, List.set_cons_zero, List.set_cons_succ] at hK ⊢
      simp only [e18] at hK ⊢
      obtain ⟨ve, hve⟩ : ∃ f : Nat → Value, f = vals := ⟨_, rfl⟩
      rw [← hve] at hK  ⊢
      clear e18 hve
      refine gwp_none rfl ?_
      go_simp
      exact hK _ _ rfl (Below.refl _ _)
    exact trivial
  · intro w1 vals hB hd
    have e19 : vals 19 = .int .i64 (ordN a b) := told_at (hd 19 (by decide)) rfl
    clear hd
    simp only [putAll, Act.put, List.setIfInBounds_toArray, List.set_cons_zero, List.set_cons_succ]
    simp only [e19]
    obtain ⟨ve, hve⟩ : ∃ f : Nat → Value, f = vals := ⟨_, rfl⟩
    rw [← hve]
    clear e19 hve
    go_wp2
    go_ret
    exact ⟨rfl, HBW.out.trans (hB.mono HBW.out.size)⟩
end Go.Proofs.YtdpllfgnppeneaaGreatDoor

/-
  A ROW OF RECORDS THAT IS SORTED IN PLACE: what the world holds while a call writes into n records of s cells of one block and lays new blocks.
-/
set_option linter.unusedVariables false
set_option linter.unusedSimpArgs false
namespace Go.Proofs.YtdpllfgnppeneaaGreatDoor
open Go.RowKit

/-- Since w0: the n records of block blk from off on are enc (d 0) .. enc (d (n-1)), s cells each; all else that was there is as it was; new blocks may have come. -/
structure SK {α : Type} (enc : α → List Value) (s : Nat) (w0 : World) (blk off n : Nat) (d : Nat → α) (W : World) : Prop where
  os : W.os = w0.os
  tape : W.tape = w0.tape
  output : W.output = w0.output
  size : w0.heap.size ≤ W.heap.size
  block : ∀ k, k < w0.heap.size → k ≠ blk → W.heap[k]? = w0.heap[k]?
  lt : blk < w0.heap.size
  cells : ∀ j, j < n → W.rangeAt blk (off + j * s) (enc (d j))
  there : W.there blk off (n * s)
  obj : ∃ c c' e fr, w0.heap[blk]? = some (.cells c e fr) ∧ W.heap[blk]? = some (.cells c' e fr) ∧ c'.size = c.size ∧ ∀ k, (k < off ∨ off + n * s ≤ k) → c'[k]? = c[k]?

theorem heap_setCells_self (b : Nat) : ∀ (vs : List Value) (o : Nat) (w : World) (c : Array Value) (e : TypeId) (fr : Nat × Nat), w.heap[b]? = some (.cells c e fr) →
    ∃ c', (w.setCells b o vs).heap[b]? = some (.cells c' e fr) ∧ c'.size = c.size ∧ ∀ k, (k < o ∨ o + vs.length ≤ k) → c'[k]? = c[k]?
  | [], o, w, c, e, fr, h => ⟨c, h, rfl, fun _ _ => rfl⟩
  | v :: r, o, w, c, e, fr, h => by
    have h1 : (w.setCell ⟨b, o, none⟩ v).heap[b]? = some (.cells (c.setIfInBounds o v) e fr) := by simp [World.setCell, Array.getElem?_modify, h]
    obtain ⟨c', h2, h3, h4⟩ := heap_setCells_self b r (o + 1) (w.setCell ⟨b, o, none⟩ v) _ e fr h1
    refine ⟨c', h2, by rw [h3]; simp, fun k hk => ?_⟩
    rw [h4 k (by simp at hk; omega), Array.getElem?_setIfInBounds, if_neg (by simp at hk; omega)]
theorem size_setCells (b : Nat) : ∀ (vs : List Value) (o : Nat) (w : World), (w.setCells b o vs).heap.size = w.heap.size
  | [], _, _ => rfl
  | v :: r, o, w => by
    show ((w.setCell ⟨b, o, none⟩ v).setCells b (o + 1) r).heap.size = _
    rw [size_setCells b r (o + 1)]
    simp
theorem tape_setCells (b : Nat) : ∀ (vs : List Value) (o : Nat) (w : World), (w.setCells b o vs).tape = w.tape
  | [], _, _ => rfl
  | v :: r, o, w => by
    show ((w.setCell ⟨b, o, none⟩ v).setCells b (o + 1) r).tape = _
    rw [tape_setCells b r (o + 1)]
    rfl
section
variable {α : Type} {enc : α → List Value} {s : Nat} {w0 W W' : World} {blk off n : Nat} {d : Nat → α}
theorem SK.below (h : SK enc s w0 blk off n d W) (hb : Below W.heap.size W W') : SK enc s w0 blk off n d W' := by
  have hlt : blk < W.heap.size := Nat.lt_of_lt_of_le h.lt h.size
  refine ⟨hb.os.trans h.os, hb.tape.trans h.tape, hb.output.trans h.output, Nat.le_trans h.size hb.size, fun k hk hn => (hb.block k (Nat.lt_of_lt_of_le hk h.size)).trans (h.block k hk hn), h.lt,
    fun j hj i v hv => (hb.cell (p := ⟨blk, off + j * s + i, none⟩) hlt).trans (h.cells j hj i v hv), fun j hj => ?_, ?_⟩
  · obtain ⟨h1, h2⟩ := h.there j hj
    exact ⟨by rw [hb.cell (p := ⟨blk, off + j, none⟩) hlt]; exact h1, (hb.frozen (p := ⟨blk, off + j, none⟩) hlt).trans h2⟩
  · obtain ⟨c, c', e, fr, h1, h2, h3, h4⟩ := h.obj
    exact ⟨c, c', e, fr, h1, (hb.block blk hlt).trans h2, h3, h4⟩
theorem SK.drewN (h : SK enc s w0 blk off n d W) (k : Nat) : SK enc s w0 blk off n d (W.drewN k) := h.below (below_drewN (Below.refl _ _) k)
theorem SK.drew (h : SK enc s w0 blk off n d W) : SK enc s w0 blk off n d W.drew := h.drewN 1
theorem SK.room (h : SK enc s w0 blk off n d W) {j : Nat} (hj : j < n) : W.there blk (off + j * s) s := fun i hi => by
  have h1 : j * s + i < n * s := by
    have : (j + 1) * s ≤ n * s := Nat.mul_le_mul_right s hj
    rw [Nat.add_mul] at this
    omega
  have := h.there (j * s + i) h1
  rw [show off + (j * s + i) = off + j * s + i by omega] at this
  exact this
theorem SK.store (hl : ∀ x, (enc x).length = s) (h : SK enc s w0 blk off n d W) {i : Nat} (hi : i < n) (x : α) : SK enc s w0 blk off n (upd d i x) (W.setCells blk (off + i * s) (enc x)) := by
  obtain ⟨c, c', e, fr, h1, h2, h3, h4⟩ := h.obj
  obtain ⟨c2, g1, g2, g3⟩ := heap_setCells_self blk (enc x) (off + i * s) W c' e fr h2
  have hend : i * s + s ≤ n * s := by
    have : (i + 1) * s ≤ n * s := Nat.mul_le_mul_right s hi
    rw [Nat.add_mul] at this
    omega
  refine ⟨(World.os_setCells _ _ _ _).trans h.os, (tape_setCells _ _ _ _).trans h.tape, (World.output_setCells _ _ _ _).trans h.output, by rw [size_setCells]; exact h.size, fun k hk hn => ?_, h.lt, fun j hj => ?_, World.there_setCells h.there _ _ _, c, c2, e, fr, h1, g1, by rw [g2]; exact h3, fun k hk => ?_⟩
  · rw [World.heap_setCells_other _ _ _ _ (Nat.lt_of_lt_of_le hk h.size) hn]
    exact h.block k hk hn
  · by_cases e2 : j = i
    · subst e2
      have : upd d j x j = x := by simp [upd]
      rw [this]
      exact World.rangeAt_setCells_same _ _ _ _ (by rw [hl]; exact h.room hj)
    · have : upd d i x j = d j := by simp [upd, e2]
      rw [this]
      refine World.rangeAt_setCells_apart (h.cells j hj) _ _ _ (.inr ?_)
      rw [hl, hl]
      rcases Nat.lt_or_gt_of_ne e2 with h5 | h5
      · have : (j + 1) * s ≤ i * s := Nat.mul_le_mul_right s h5
        rw [Nat.add_mul] at this
        omega
      · have : (i + 1) * s ≤ j * s := Nat.mul_le_mul_right s h5
        rw [Nat.add_mul] at this
        omega
  · rw [g3 k (by rw [hl]; omega)]
    exact h4 k hk
theorem SK.swapped (hl : ∀ x, (enc x).length = s) (h : SK enc s w0 blk off n d W) {i j : Nat} (hi : i < n) (hj : j < n) :
    SK enc s w0 blk off n (swpF d i j) ((W.setCells blk (off + i * s) (enc (d j))).setCells blk (off + j * s) (enc (d i))) := (h.store hl hi (d j)).store hl hj (d i)
theorem SK.congr (h : SK enc s w0 blk off n d W) {d' : Nat → α} (hd : ∀ j, j < n → d' j = d j) : SK enc s w0 blk off n d' W :=
  ⟨h.os, h.tape, h.output, h.size, h.block, h.lt, fun j hj => by rw [hd j hj]; exact h.cells j hj, h.there, h.obj⟩
theorem SK.belowBase (h : SK enc s w0 blk off n d W) {B : Nat} (hB : B ≤ blk) : Below B w0 W :=
  ⟨h.os, h.tape, h.output, h.size, fun k hk => h.block k (by have := h.lt; omega) (by omega)⟩
/-- A row of records of the call's own, begun. -/
theorem SK.start {base c : Nat} {e : TypeId} {l : List α} {g : Nat} (hl : ∀ x, (enc x).length = s) (hs : 0 < s) (h : OwnR enc s e w0 base (.slice (some ⟨g, 0, none⟩) l.length c) l) (hd : ∀ j x, l[j]? = some x → d j = x) : SK enc s w0 g 0 l.length d w0 := by
  have hlt := (h.lt g rfl).2
  have hobj := h.2
  refine ⟨rfl, rfl, rfl, Nat.le_refl _, fun _ _ _ => rfl, hlt, fun j hj i v hv => ?_, fun k hk => ?_, ?_⟩
  · have hx : l[j]? = some l[j] := List.getElem?_eq_getElem hj
    have his : i < s := by have := (List.getElem?_eq_some_iff.1 hv).1; rw [hl] at this; exact this
    rw [hd j _ hx] at hv
    have h1 : j * s + i < l.length * s := by
      have : (j + 1) * s ≤ l.length * s := Nat.mul_le_mul_right s hj
      rw [Nat.add_mul] at this
      omega
    rw [Nat.zero_add, World.ownsRow.cellAt h (j * s + i) h1, flat_at hl hx his]
    exact hv
  · refine ⟨?_, by rw [Nat.zero_add]; exact World.ownsRow.frozenAt h k⟩
    rw [Nat.zero_add, World.ownsRow.cellAt h k hk, List.getElem?_eq_getElem (by rw [flat_len hl]; exact hk)]
    rfl
  · rcases hobj with ⟨h1, _⟩ | ⟨g', cap, cur, hv, hg, hh, _⟩
    · cases h1
    · cases hv
      exact ⟨cur, cur, e, _, hh, hh, rfl, fun _ _ => rfl⟩
/-- The whole row of an owned slice, told again. -/
theorem SK.owned {base c : Nat} {e : TypeId} {l l' : List α} {g : Nat} (hl : ∀ x, (enc x).length = s) (hs : 0 < s) (h : SK enc s w0 g 0 l.length d W) (ho : OwnR enc s e w0 base (.slice (some ⟨g, 0, none⟩) l.length c) l) (hn : l'.length = l.length) (hd : ∀ j, j < l.length → l'[j]? = some (d j)) :
    OwnR enc s e W base (.slice (some ⟨g, 0, none⟩) l.length c) l' := by
  refine ⟨by rw [flat_len hl, hn], ?_⟩
  rcases ho.2 with ⟨h1, _⟩ | ⟨g', cap, cur, hv, hg, hh, hnc, hm, hsz, ht⟩
  · cases h1
  · cases hv
    obtain ⟨c1, c', e', fr, h1, h2, h3, h4⟩ := h.obj
    rw [hh] at h1
    cases h1
    refine .inr ⟨g, c, c', by rw [hn], hg, h2, by rw [hn]; exact hnc, hm, by rw [h3]; exact hsz, ?_⟩
    rw [hn]
    apply List.ext_getElem?
    intro k
    by_cases hk : k < l.length * s
    · have hj : k / s < l.length := (Nat.div_lt_iff_lt_mul hs).2 hk
      have hkm : k / s * s + k % s = k := by have := Nat.div_add_mod k s; rw [Nat.mul_comm] at this; exact this
      have hm2 : k % s < s := Nat.mod_lt _ hs
      have hx := hd (k / s) hj
      have hf := flat_at (f := enc) hl hx hm2
      rw [hkm] at hf
      have hxe : (enc (d (k / s)))[k % s]? = some ((enc (d (k / s)))[k % s]'(by rw [hl]; exact hm2)) := List.getElem?_eq_getElem _
      have hc := h.cells (k / s) hj (k % s) _ hxe
      rw [Nat.zero_add, hkm] at hc
      simp only [World.cell?, h2] at hc
      rw [hf, hxe, List.getElem?_take, if_pos hk]
      simpa using hc
    · rw [List.getElem?_eq_none (by rw [List.length_take]; omega), List.getElem?_eq_none (by rw [flat_len hl, hn]; omega)]
end
end Go.Proofs.YtdpllfgnppeneaaGreatDoor
