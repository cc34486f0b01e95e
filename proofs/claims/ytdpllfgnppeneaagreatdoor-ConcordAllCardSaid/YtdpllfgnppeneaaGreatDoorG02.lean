import Derived.Test.YtdpllfgnppeneaaGreatDoorG00
import Derived.Test.YtdpllfgnppeneaaGreatDoorG01
import Derived.Laws.IdiomStrings
import Derived.Outline
/-
  MARKS AND THEIR CLASSES: the program's functions and the reference's, at every number.
-/
namespace Go.Proofs.YtdpllfgnppeneaaGreatDoor
open Go.RowKit
set_option linter.unusedVariables false
set_option linter.unusedSimpArgs false
namespace Ru
def markB (p : Int) : Bool := decide (768 ≤ p) && decide (p ≤ 879)
def inB (p lo hi : Int) : Bool := decide (lo ≤ p) && decide (p ≤ hi)
def classI (p : Int) : Int :=
  if markB p = false then 0
  else if inB p 790 793 || inB p 796 800 || inB p 803 806 || inB p 809 819 then 220
  else if inB p 801 802 || inB p 807 808 then 202
  else 230
theorem ranges (p : Int) : (p ≤ 767) ∨ (768 ≤ p ∧ p ≤ 789) ∨ (790 ≤ p ∧ p ≤ 793) ∨ (794 ≤ p ∧ p ≤ 795) ∨ (796 ≤ p ∧ p ≤ 800) ∨ (801 ≤ p ∧ p ≤ 801) ∨ (802 ≤ p ∧ p ≤ 802) ∨ (803 ≤ p ∧ p ≤ 806) ∨ (807 ≤ p ∧ p ≤ 807) ∨ (808 ≤ p ∧ p ≤ 808) ∨ (809 ≤ p ∧ p ≤ 819) ∨ (820 ≤ p ∧ p ≤ 879) ∨ (880 ≤ p) := by omega
theorem class0 (p : Int) (h : p ≤ 767) : classI p = 0 := by
  unfold classI markB inB
  simp only [Bool.or_eq_true, Bool.and_eq_true, Bool.and_eq_false_iff, decide_eq_true_eq, decide_eq_false_iff_not]
  rw [if_pos (by omega)]
theorem class1 (p : Int) (h : 768 ≤ p ∧ p ≤ 789) : classI p = 230 := by
  unfold classI markB inB
  simp only [Bool.or_eq_true, Bool.and_eq_true, Bool.and_eq_false_iff, decide_eq_true_eq, decide_eq_false_iff_not]
  rw [if_neg (by omega), if_neg (by omega), if_neg (by omega)]
theorem class2 (p : Int) (h : 790 ≤ p ∧ p ≤ 793) : classI p = 220 := by
  unfold classI markB inB
  simp only [Bool.or_eq_true, Bool.and_eq_true, Bool.and_eq_false_iff, decide_eq_true_eq, decide_eq_false_iff_not]
  rw [if_neg (by omega), if_pos (by omega)]
theorem class3 (p : Int) (h : 794 ≤ p ∧ p ≤ 795) : classI p = 230 := by
  unfold classI markB inB
  simp only [Bool.or_eq_true, Bool.and_eq_true, Bool.and_eq_false_iff, decide_eq_true_eq, decide_eq_false_iff_not]
  rw [if_neg (by omega), if_neg (by omega), if_neg (by omega)]
theorem class4 (p : Int) (h : 796 ≤ p ∧ p ≤ 800) : classI p = 220 := by
  unfold classI markB inB
  simp only [Bool.or_eq_true, Bool.and_eq_true, Bool.and_eq_false_iff, decide_eq_true_eq, decide_eq_false_iff_not]
  rw [if_neg (by omega), if_pos (by omega)]
theorem class5 (p : Int) (h : 801 ≤ p ∧ p ≤ 801) : classI p = 202 := by
  unfold classI markB inB
  simp only [Bool.or_eq_true, Bool.and_eq_true, Bool.and_eq_false_iff, decide_eq_true_eq, decide_eq_false_iff_not]
  rw [if_neg (by omega), if_neg (by omega), if_pos (by omega)]
theorem class6 (p : Int) (h : 802 ≤ p ∧ p ≤ 802) : classI p = 202 := by
  unfold classI markB inB
  simp only [Bool.or_eq_true, Bool.and_eq_true, Bool.and_eq_false_iff, decide_eq_true_eq, decide_eq_false_iff_not]
  rw [if_neg (by omega), if_neg (by omega), if_pos (by omega)]
theorem class7 (p : Int) (h : 803 ≤ p ∧ p ≤ 806) : classI p = 220 := by
  unfold classI markB inB
  simp only [Bool.or_eq_true, Bool.and_eq_true, Bool.and_eq_false_iff, decide_eq_true_eq, decide_eq_false_iff_not]
  rw [if_neg (by omega), if_pos (by omega)]
theorem class8 (p : Int) (h : 807 ≤ p ∧ p ≤ 807) : classI p = 202 := by
  unfold classI markB inB
  simp only [Bool.or_eq_true, Bool.and_eq_true, Bool.and_eq_false_iff, decide_eq_true_eq, decide_eq_false_iff_not]
  rw [if_neg (by omega), if_neg (by omega), if_pos (by omega)]
theorem class9 (p : Int) (h : 808 ≤ p ∧ p ≤ 808) : classI p = 202 := by
  unfold classI markB inB
  simp only [Bool.or_eq_true, Bool.and_eq_true, Bool.and_eq_false_iff, decide_eq_true_eq, decide_eq_false_iff_not]
  rw [if_neg (by omega), if_neg (by omega), if_pos (by omega)]
theorem class10 (p : Int) (h : 809 ≤ p ∧ p ≤ 819) : classI p = 220 := by
  unfold classI markB inB
  simp only [Bool.or_eq_true, Bool.and_eq_true, Bool.and_eq_false_iff, decide_eq_true_eq, decide_eq_false_iff_not]
  rw [if_neg (by omega), if_pos (by omega)]
theorem class11 (p : Int) (h : 820 ≤ p ∧ p ≤ 879) : classI p = 230 := by
  unfold classI markB inB
  simp only [Bool.or_eq_true, Bool.and_eq_true, Bool.and_eq_false_iff, decide_eq_true_eq, decide_eq_false_iff_not]
  rw [if_neg (by omega), if_neg (by omega), if_neg (by omega)]
theorem class12 (p : Int) (h : 880 ≤ p) : classI p = 0 := by
  unfold classI markB inB
  simp only [Bool.or_eq_true, Bool.and_eq_true, Bool.and_eq_false_iff, decide_eq_true_eq, decide_eq_false_iff_not]
  rw [if_pos (by omega)]
end Ru
set_option maxHeartbeats 400000 in
theorem mark_any (p : Int) (w : World) : Calls Tryz.prog 80 #[.int .i64 p] w fun e w' => e = .returned (.bool (Ru.markB p)) ∧ w = w' := by
  by_cases h1 : 768 ≤ p
  · have d1 : decide (768 ≤ p) = true := decide_eq_true h1
    by_cases h2 : p ≤ 879
    · have d2 : decide (p ≤ 879) = true := decide_eq_true h2
      go_enter Tryz.func80, Tryz.ntmps80
      go_wp2
      go_ret
      exact ⟨ret_bool (by simp [Ru.markB, h1, h2]), rfl⟩
    · have d2 : decide (p ≤ 879) = false := decide_eq_false h2
      go_enter Tryz.func80, Tryz.ntmps80
      go_wp2
      go_ret
      exact ⟨ret_bool (by simp [Ru.markB, h1, h2]), rfl⟩
  · have d1 : decide (768 ≤ p) = false := decide_eq_false h1
    go_enter Tryz.func80, Tryz.ntmps80
    go_wp2
    go_ret
    exact ⟨ret_bool (by unfold Ru.markB; rw [d1]; rfl), rfl⟩
theorem class_range (p : Int) : 0 ≤ Ru.classI p ∧ Ru.classI p ≤ 230 := by
  unfold Ru.classI
  repeat' split
  all_goals omega
theorem class_zero (p : Int) : Ru.classI p = 0 ↔ Ru.markB p = false := by
  unfold Ru.classI
  repeat' split
  all_goals simp_all
end Go.Proofs.YtdpllfgnppeneaaGreatDoor

/-
  PLAIN LAW of the chapter on runes: clusters and the order of marks. No program in sight.
-/
set_option linter.unusedVariables false
set_option linter.unusedSimpArgs false
namespace Go.Proofs.YtdpllfgnppeneaaGreatDoor.Ru
open Go.Proofs.YtdpllfgnppeneaaGreatDoor.Col Go.Proofs.YtdpllfgnppeneaaGreatDoor.Srt

def mk (p : Nat) : Bool := markB (p : Int)
def cls (p : Nat) : Int := classI (p : Int)
def encS (l : List Nat) : List UInt8 := l.flatMap fun (p : Nat) => encL (p : Int)
theorem encS_nil : encS [] = [] := rfl
theorem encS_app (a b : List Nat) : encS (a ++ b) = encS a ++ encS b := by unfold encS; simp
theorem encS_one (p : Nat) : encS [p] = encL (p : Int) := by unfold encS; simp
theorem encS_cons (p : Nat) (t : List Nat) : encS (p :: t) = encL (p : Int) ++ encS t := by unfold encS; simp
def ofI (l : List Int) : Option (List UInt8) := if l.all scalarB then some (l.flatMap encL) else none

/-- The clusters of what is left, c being the one that is open. -/
def cluGo (c : List Nat) : List Nat → List (List Nat)
  | [] => [c]
  | p :: t => if mk p = true then cluGo (c ++ [p]) t else c :: cluGo [p] t
def clus : List Nat → List (List Nat)
  | [] => []
  | p :: t => cluGo [p] t
/-- Where a mark is inserted: behind all whose class is not greater. -/
def posR (l : List Nat) (m : Nat) : Nat → Nat
  | 0 => 0
  | k + 1 => if mk (l.getD k 0) = true ∧ cls m < cls (l.getD k 0) then posR l m k else k + 1
def ordR (l : List Nat) (m : Nat) : List Nat := l.take (posR l m l.length) ++ m :: l.drop (posR l m l.length)
/-- The points in order, c being the cluster (in order) that is open. -/
def ordGo (c : List Nat) : List Nat → List Nat
  | [] => c
  | p :: t => if mk p = true then ordGo (ordR c p) t else c ++ ordGo [p] t
def ords (l : List Nat) : List Nat := ordGo [] l
def sortC : List Nat → List Nat
  | [] => []
  | p :: t => t.foldl ordR [p]
def order (s : List UInt8) : List UInt8 :=
  match points s with
  | none => s
  | some d => encS (ords d)

theorem mk_cls (p : Nat) : cls p = 0 ↔ mk p = false := class_zero _
theorem cls_nonneg (p : Nat) : 0 ≤ cls p := (class_range _).1
theorem posR_le (l : List Nat) (m : Nat) : ∀ k, posR l m k ≤ k
  | 0 => Nat.le_refl _
  | k + 1 => by
    unfold posR
    split
    · exact Nat.le_trans (posR_le l m k) (Nat.le_succ k)
    · exact Nat.le_refl _
theorem posR_above (l : List Nat) (m : Nat) : ∀ k j, posR l m k ≤ j → j < k → cls m < cls (l.getD j 0)
  | 0, j, _, h => by omega
  | k + 1, j, h1, h2 => by
    unfold posR at h1
    split at h1
    · rename_i hc
      by_cases e : j = k
      · subst e; exact hc.2
      · exact posR_above l m k j h1 (by omega)
    · omega
theorem posR_at (l : List Nat) (m : Nat) : ∀ k, 0 < posR l m k → cls (l.getD (posR l m k - 1) 0) ≤ cls m
  | 0, h => by simp [posR] at h
  | k + 1, h => by
    unfold posR at h ⊢
    split
    · rename_i hc
      rw [if_pos hc] at h
      exact posR_at l m k h
    · rename_i hc
      rw [Nat.add_sub_cancel]
      by_cases hm : mk (l.getD k 0) = true
      · have : ¬ cls m < cls (l.getD k 0) := fun h2 => hc ⟨hm, h2⟩
        omega
      · have h0 := (mk_cls (l.getD k 0)).2 (by simpa using hm)
        have := cls_nonneg m
        omega
/-- The comparison of classes. -/
def cmpC (a b : Nat) : Int := cls a - cls b
theorem cmpC_is : IsCmp cmpC := IsCmp.diff cls
theorem getD_of {l : List Nat} {j y : Nat} (h : l[j]? = some y) : l.getD j 0 = y := by rw [List.getD, h]; rfl
/-- One insertion is a step of the stable sort. -/
theorem ordR_stable {l : List Nat} {k x : Nat} {ys : List Nat} (h : StableOf cmpC (l.take k) ys) (hx : l[k]? = some x) : StableOf cmpC (l.take (k + 1)) (ordR ys x) := by
  refine stable_insert cmpC_is h hx (posR_le _ _ _) (fun y h0 hy => ?_) (fun j y hj hy => ?_)
  · have := posR_at ys x ys.length h0
    rw [getD_of hy] at this
    unfold cmpC; omega
  · have hjl := (List.getElem?_eq_some_iff.1 hy).1
    have := posR_above ys x ys.length j hj hjl
    rw [getD_of hy] at this
    unfold cmpC; omega
theorem foldl_stable (p : Nat) (t : List Nat) : ∀ k, k ≤ t.length → StableOf cmpC ((p :: t).take (k + 1)) ((t.take k).foldl ordR [p])
  | 0, _ => by
    have h := ordR_stable (l := p :: t) (k := 0) (x := p) (ys := []) (by simpa using stable_nil) rfl
    simpa [ordR, posR] using h
  | k + 1, hk => by
    have ih := foldl_stable p t k (by omega)
    have hx : t[k]? = some (t[k]'(by omega)) := List.getElem?_eq_getElem (by omega)
    have h := ordR_stable (l := p :: t) (k := k + 1) (x := t[k]'(by omega)) ih (by rw [List.getElem?_cons_succ]; exact hx)
    rw [List.take_succ_eq_append_getElem (by omega : k < t.length), List.foldl_append]
    exact h
theorem sortC_stable (c : List Nat) : StableOf cmpC c (sortC c) := by
  cases c with
  | nil => exact stable_nil
  | cons p t =>
    have h := foldl_stable p t t.length (Nat.le_refl _)
    rw [List.take_of_length_le (Nat.le_refl _)] at h
    rw [List.take_of_length_le (by simp)] at h
    exact h
theorem sortC_eq {c ys : List Nat} (h : StableOf cmpC c ys) : ys = sortC c := h.unique cmpC_is (sortC_stable c)
theorem sortC_perm (c : List Nat) : (sortC c).Perm c := (sortC_stable c).perm
theorem ords_cons (p : Nat) (t : List Nat) : ords (p :: t) = ordGo [p] t := by
  unfold ords
  show (if mk p = true then ordGo (ordR [] p) t else [] ++ ordGo [p] t) = _
  split
  · rfl
  · simp
theorem ordGo_marks (c ms rest : List Nat) (h : ∀ m ∈ ms, mk m = true) : ordGo c (ms ++ rest) = ordGo (ms.foldl ordR c) rest := by
  induction ms generalizing c with
  | nil => rfl
  | cons m ms ih =>
    show (if mk m = true then ordGo (ordR c m) (ms ++ rest) else _) = _
    rw [if_pos (h m (by simp)), ih _ (fun x hx => h x (by simp [hx]))]
    rfl
/-- What follows is empty or begins with no mark. -/
def Fresh (rest : List Nat) : Prop := ∀ p t, rest = p :: t → mk p = false
theorem ordGo_fresh (c rest : List Nat) (h : Fresh rest) : ordGo c rest = c ++ ords rest := by
  cases rest with
  | nil => simp [ordGo, ords]
  | cons p t =>
    show (if mk p = true then _ else c ++ ordGo [p] t) = _
    rw [h p t rfl, if_neg (by simp), ords_cons]
theorem ords_seg (p : Nat) (ms rest : List Nat) (h : ∀ m ∈ ms, mk m = true) (hr : Fresh rest) : ords (p :: ms ++ rest) = sortC (p :: ms) ++ ords rest := by
  rw [List.cons_append, ords_cons, ordGo_marks _ _ _ h, ordGo_fresh _ _ hr]
  rfl
theorem cluGo_marks (c ms rest : List Nat) (h : ∀ m ∈ ms, mk m = true) : cluGo c (ms ++ rest) = cluGo (c ++ ms) rest := by
  induction ms generalizing c with
  | nil => simp
  | cons m ms ih =>
    show (if mk m = true then cluGo (c ++ [m]) (ms ++ rest) else _) = _
    rw [if_pos (h m (by simp)), ih _ (fun x hx => h x (by simp [hx]))]
    simp
theorem cluGo_fresh (c rest : List Nat) (h : Fresh rest) : cluGo c rest = c :: clus rest := by
  cases rest with
  | nil => rfl
  | cons p t =>
    show (if mk p = true then _ else c :: cluGo [p] t) = _
    rw [h p t rfl, if_neg (by simp)]
    rfl
theorem clus_seg (p : Nat) (ms rest : List Nat) (h : ∀ m ∈ ms, mk m = true) (hr : Fresh rest) : clus (p :: ms ++ rest) = (p :: ms) :: clus rest := by
  rw [List.cons_append]
  show cluGo [p] (ms ++ rest) = _
  rw [cluGo_marks _ _ _ h, cluGo_fresh _ _ hr]
  rfl
/-- Points part into a cluster and what follows. -/
theorem segs {l : List Nat} (h : l ≠ []) : ∃ p ms rest, l = p :: ms ++ rest ∧ (∀ m ∈ ms, mk m = true) ∧ Fresh rest := by
  cases l with
  | nil => exact absurd rfl h
  | cons p t =>
    refine ⟨p, t.takeWhile mk, t.dropWhile mk, by simp [List.takeWhile_append_dropWhile], fun m hm => ?_, fun q u hq => ?_⟩
    · have := List.all_takeWhile (p := mk) (l := t)
      exact List.all_eq_true.1 this m hm
    · have := List.head?_dropWhile_not mk t
      rw [hq] at this
      simpa using this
/-- Clusters, one after the other: an induction. -/
theorem seg_ind {P : List Nat → Prop} (h0 : P []) (h1 : ∀ p ms rest, (∀ m ∈ ms, mk m = true) → Fresh rest → P rest → P (p :: ms ++ rest)) (l : List Nat) : P l := by
  obtain ⟨n, hn⟩ : ∃ n, l.length = n := ⟨_, rfl⟩
  induction n using Nat.strongRecOn generalizing l with
  | _ n ih =>
    by_cases h : l = []
    · subst h; exact h0
    · obtain ⟨p, ms, rest, rfl, hm, hr⟩ := segs h
      exact h1 p ms rest hm hr (ih rest.length (by rw [← hn]; simp; omega) rest rfl)
theorem clus_flatten (l : List Nat) : (clus l).flatten = l :=
  seg_ind (P := fun l => (clus l).flatten = l) rfl (fun p ms rest hm hr ih => by rw [clus_seg p ms rest hm hr, List.flatten_cons, ih]) l
theorem ords_clus (l : List Nat) : ords l = (clus l).flatMap sortC :=
  seg_ind (P := fun l => ords l = (clus l).flatMap sortC) rfl (fun p ms rest hm hr ih => by rw [ords_seg p ms rest hm hr, clus_seg p ms rest hm hr, List.flatMap_cons, ih]) l
theorem ords_perm (l : List Nat) : (ords l).Perm l :=
  seg_ind (P := fun l => (ords l).Perm l) (List.Perm.refl _) (fun p ms rest hm hr ih => by rw [ords_seg p ms rest hm hr]; exact (sortC_perm _).append ih) l
/-- A cluster: something, and marks behind it. -/
def IsClu (c : List Nat) : Prop := ∃ p ms, c = p :: ms ∧ ∀ m ∈ ms, mk m = true
theorem clus_is (l : List Nat) : ∀ c ∈ clus l, IsClu c :=
  seg_ind (P := fun l => ∀ c ∈ clus l, IsClu c) (fun c hc => by simp [clus] at hc) (fun p ms rest hm hr ih c hc => by
    rw [clus_seg p ms rest hm hr] at hc
    rcases List.mem_cons.1 hc with rfl | hc
    · exact ⟨p, ms, rfl, hm⟩
    · exact ih c hc) l
theorem ordR_head (p : Nat) (t : List Nat) (m : Nat) (h : mk p = false) : ∃ u, ordR (p :: t) m = p :: u ∧ u.Perm (m :: t) := by
  have h0 : 0 < posR (p :: t) m (p :: t).length := by
    have : ∀ k, 0 < k → 0 < posR (p :: t) m k := by
      intro k
      induction k with
      | zero => intro h; omega
      | succ k ih =>
        intro _
        unfold posR
        split
        · rename_i hc
          rcases Nat.eq_zero_or_pos k with e | e
          · subst e
            rw [List.getD_cons_zero] at hc
            rw [h] at hc
            cases hc.1
          · exact ih e
        · omega
    exact this _ (by simp)
  obtain ⟨k, hk⟩ : ∃ k, posR (p :: t) m (p :: t).length = k + 1 := ⟨posR (p :: t) m (p :: t).length - 1, by omega⟩
  unfold ordR
  rw [hk]
  refine ⟨t.take k ++ m :: t.drop k, by simp, ?_⟩
  refine List.Perm.trans List.perm_middle ?_
  rw [List.take_append_drop]
theorem ordR_perm (l : List Nat) (m : Nat) : (ordR l m).Perm (m :: l) := by
  unfold ordR
  refine List.Perm.trans List.perm_middle ?_
  rw [List.take_append_drop]
theorem foldl_head (p : Nat) (ms : List Nat) (t : List Nat) (h : mk p = false) : ∃ u, ms.foldl ordR (p :: t) = p :: u ∧ u.Perm (ms ++ t) := by
  induction ms generalizing t with
  | nil => exact ⟨t, rfl, by simp⟩
  | cons m ms ih =>
    obtain ⟨u, hu, hp⟩ := ordR_head p t m h
    obtain ⟨v, hv, hq⟩ := ih u
    refine ⟨v, by rw [List.foldl_cons, hu]; exact hv, hq.trans ((List.Perm.append_left ms hp).trans ?_)⟩
    exact (List.perm_middle).trans (by simp)
/-- In order, a cluster is a cluster, and has its base in front. -/
theorem sortC_clu {p : Nat} {ms : List Nat} (hm : ∀ m ∈ ms, mk m = true) : ∃ q us, sortC (p :: ms) = q :: us ∧ (∀ m ∈ us, mk m = true) ∧ (mk p = false → q = p) ∧ (mk p = true → mk q = true) := by
  have hperm := sortC_perm (p :: ms)
  by_cases h : mk p = false
  · obtain ⟨u, hu, hp⟩ := foldl_head p ms [] h
    refine ⟨p, u, hu, fun m hmu => ?_, fun _ => rfl, fun h' => by rw [h] at h'; cases h'⟩
    have := hp.mem_iff.1 hmu
    simp at this
    exact hm m this
  · have hall : ∀ m ∈ sortC (p :: ms), mk m = true := fun m hmm => by
      rcases List.mem_cons.1 (hperm.mem_iff.1 hmm) with rfl | h2
      · simpa using h
      · exact hm m h2
    cases hs : sortC (p :: ms) with
    | nil => rw [hs] at hperm; exact absurd hperm.length_eq (by simp)
    | cons q us =>
      rw [hs] at hall
      exact ⟨q, us, rfl, fun m hmm => hall m (by simp [hmm]), fun h' => absurd h' h, fun _ => hall q (by simp)⟩
theorem ords_fresh {l : List Nat} (h : Fresh l) : Fresh (ords l) := by
  intro q u hq
  by_cases h0 : l = []
  · subst h0
    simp [ords, ordGo] at hq
  · obtain ⟨p, ms, rest, rfl, hm, hr⟩ := segs h0
    have hp := h p (ms ++ rest) rfl
    rw [ords_seg p ms rest hm hr] at hq
    obtain ⟨q', us, e, _, h2, _⟩ := sortC_clu (p := p) hm
    rw [e, h2 hp] at hq
    injection hq with h3 _
    rw [← h3]; exact hp
/-- The clusters of the points in order are the clusters, each in order. -/
theorem clus_ords (l : List Nat) : clus (ords l) = (clus l).map sortC :=
  seg_ind (P := fun l => clus (ords l) = (clus l).map sortC) rfl (fun p ms rest hm hr ih => by
    obtain ⟨q, us, e, h1, _, _⟩ := sortC_clu (p := p) hm
    rw [ords_seg p ms rest hm hr, clus_seg p ms rest hm hr, e, clus_seg q us _ h1 (ords_fresh hr), ih, List.map_cons, e]) l
theorem stable_pair {c ys : List Nat} (h : StableOf cmpC c ys) : ys.Pairwise fun a b => cls a ≤ cls b := by
  obtain ⟨p, _, p2, rfl⟩ := h
  rw [List.pairwise_map]
  refine p2.imp fun {a b} hab => ?_
  unfold lexLt cmpC at hab
  omega
theorem ordR_end {l : List Nat} {m : Nat} (h : ∀ y ∈ l, cls y ≤ cls m) : ordR l m = l ++ [m] := by
  have : posR l m l.length = l.length := by
    cases hl : l.length with
    | zero => rfl
    | succ k =>
      unfold posR
      rw [if_neg]
      intro hc
      have hk : k < l.length := by omega
      have := h (l[k]) (List.getElem_mem hk)
      have e : l.getD k 0 = l[k] := by simp [List.getD, hk]
      rw [e] at hc
      omega
  unfold ordR
  rw [this]
  simp
theorem foldl_sorted (l ms : List Nat) (h : (l ++ ms).Pairwise fun a b => cls a ≤ cls b) : ms.foldl ordR l = l ++ ms := by
  induction ms generalizing l with
  | nil => simp
  | cons m ms ih =>
    have h1 : ∀ y ∈ l, cls y ≤ cls m := fun y hy => (List.pairwise_append.1 h).2.2 y hy m (by simp)
    rw [List.foldl_cons, ordR_end h1, ih _ (by simpa using h)]
    simp
theorem sortC_idem (c : List Nat) : sortC (sortC c) = sortC c := by
  have h := stable_pair (sortC_stable c)
  cases hs : sortC c with
  | nil => rfl
  | cons q us =>
    rw [hs] at h
    exact foldl_sorted [q] us (by simpa using h)
theorem ords_idem (l : List Nat) : ords (ords l) = ords l := by
  rw [ords_clus (ords l), clus_ords, ords_clus l, List.flatMap_map]
  congr 1
  funext c
  exact sortC_idem c
theorem clus_app (l r : List Nat) (h : Fresh r) : clus (l ++ r) = clus l ++ clus r :=
  seg_ind (P := fun l => clus (l ++ r) = clus l ++ clus r) (by simp [clus]) (fun p ms rest hm hr ih => by
    have hf : Fresh (rest ++ r) := by
      intro q t hq
      cases rest with
      | nil => exact h q t hq
      | cons q' t' =>
        rw [List.cons_append] at hq
        injection hq with h1 _
        rw [← h1]; exact hr q' t' rfl
    rw [List.append_assoc, clus_seg p ms _ hm hf, clus_seg p ms rest hm hr, ih, List.cons_append]) l
theorem ords_app (l r : List Nat) (h : Fresh r) : ords (l ++ r) = ords l ++ ords r := by
  rw [ords_clus, clus_app l r h, List.flatMap_append, ← ords_clus, ← ords_clus]
end Go.Proofs.YtdpllfgnppeneaaGreatDoor.Ru

/-
  PLAIN LAW of the chapter on runes: points and their bytes are inverse; two marks change places. No program in sight.
-/
set_option linter.unusedVariables false
set_option linter.unusedSimpArgs false
namespace Go.Proofs.YtdpllfgnppeneaaGreatDoor.Ru
open Go.Proofs.YtdpllfgnppeneaaGreatDoor.Col Go.Proofs.YtdpllfgnppeneaaGreatDoor.Srt

theorem u8_nat {n : Nat} (h : n < 256) : (UInt8.ofNat n).toNat = n := by
  rw [UInt8.toNat_ofNat']; omega
theorem scalar_iff {p : Nat} : scalarB (p : Int) = true ↔ p ≤ 1114111 ∧ (p < 55296 ∨ 57343 < p) := by
  unfold scalarB
  simp only [Bool.and_eq_true, Bool.or_eq_true, decide_eq_true_eq]
  omega
theorem encL_len (p : Int) : 1 ≤ (encL p).length ∧ (encL p).length ≤ 4 := by
  unfold encL encI
  repeat' split
  all_goals simp
set_option maxRecDepth 100000 in
theorem first_enc {p : Nat} (h : scalarB (p : Int) = true) (rest : List UInt8) : firstL (encL (p : Int) ++ rest) = some (p, (encL (p : Int)).length) := by
  have hs := scalar_iff.1 h
  by_cases h1 : p < 128
  · have e : encL (p : Int) = [UInt8.ofNat p] := by unfold encL encI; rw [if_pos (by omega)]; simp
    have el : lead (UInt8.ofNat p).toNat = (p, 1) := by rw [u8_nat (by omega)]; unfold lead; rw [if_neg (by omega), if_neg (by omega), if_neg (by omega)]
    rw [e]
    simp only [List.cons_append, List.nil_append, firstL, el]
    simp only [Nat.sub_self, List.take_zero, cont, List.foldl_nil]
    rw [if_pos ⟨by omega, h, by rw [e]; simp⟩]
    rfl
  · by_cases h2 : p < 2048
    · have e : encL (p : Int) = [UInt8.ofNat (192 + p / 64), UInt8.ofNat (128 + p % 64)] := by
        unfold encL encI
        rw [if_neg (by omega), if_pos (by omega)]
        simp only [List.map_cons, List.map_nil]
        rw [show (192 + (p : Int) / 64).toNat = 192 + p / 64 by omega, show (128 + (p : Int) % 64).toNat = 128 + p % 64 by omega]
      have el : lead (UInt8.ofNat (192 + p / 64)).toNat = (p / 64, 2) := by
        rw [u8_nat (by omega)]; unfold lead; rw [if_neg (by omega), if_neg (by omega), if_pos (by omega)]
        congr 1; omega
      rw [e]
      simp only [List.cons_append, List.nil_append, firstL, el]
      have ec : cont (p / 64) ((UInt8.ofNat (128 + p % 64) :: rest).take (2 - 1)) = p := by
        simp only [cont, Nat.reduceSub, List.take_succ_cons, List.take_zero, List.foldl_cons, List.foldl_nil]
        rw [u8_nat (by omega)]; omega
      rw [ec, if_pos ⟨by simp, h, by rw [e]; simp⟩]
      rfl
    · by_cases h3 : p < 65536
      · have e : encL (p : Int) = [UInt8.ofNat (224 + p / 4096), UInt8.ofNat (128 + p / 64 % 64), UInt8.ofNat (128 + p % 64)] := by
          unfold encL encI
          rw [if_neg (by omega), if_neg (by omega), if_pos (by omega)]
          simp only [List.map_cons, List.map_nil]
          rw [show (224 + (p : Int) / 4096).toNat = 224 + p / 4096 by omega, show (128 + (p : Int) / 64 % 64).toNat = 128 + p / 64 % 64 by omega, show (128 + (p : Int) % 64).toNat = 128 + p % 64 by omega]
        have el : lead (UInt8.ofNat (224 + p / 4096)).toNat = (p / 4096, 3) := by
          rw [u8_nat (by omega)]; unfold lead; rw [if_neg (by omega), if_pos (by omega)]
          congr 1; omega
        rw [e]
        simp only [List.cons_append, List.nil_append, firstL, el]
        have ec : cont (p / 4096) ((UInt8.ofNat (128 + p / 64 % 64) :: UInt8.ofNat (128 + p % 64) :: rest).take (3 - 1)) = p := by
          simp only [cont, Nat.reduceSub, List.take_succ_cons, List.take_zero, List.foldl_cons, List.foldl_nil]
          rw [u8_nat (by omega), u8_nat (by omega)]; omega
        rw [ec, if_pos ⟨by simp, h, by rw [e]; simp⟩]
        rfl
      · have e : encL (p : Int) = [UInt8.ofNat (240 + p / 262144), UInt8.ofNat (128 + p / 4096 % 64), UInt8.ofNat (128 + p / 64 % 64), UInt8.ofNat (128 + p % 64)] := by
          unfold encL encI
          rw [if_neg (by omega), if_neg (by omega), if_neg (by omega)]
          simp only [List.map_cons, List.map_nil]
          rw [show (240 + (p : Int) / 262144).toNat = 240 + p / 262144 by omega, show (128 + (p : Int) / 4096 % 64).toNat = 128 + p / 4096 % 64 by omega, show (128 + (p : Int) / 64 % 64).toNat = 128 + p / 64 % 64 by omega, show (128 + (p : Int) % 64).toNat = 128 + p % 64 by omega]
        have el : lead (UInt8.ofNat (240 + p / 262144)).toNat = (p / 262144, 4) := by
          rw [u8_nat (by omega)]; unfold lead; rw [if_pos (by omega)]
          congr 1; omega
        rw [e]
        simp only [List.cons_append, List.nil_append, firstL, el]
        have ec : cont (p / 262144) ((UInt8.ofNat (128 + p / 4096 % 64) :: UInt8.ofNat (128 + p / 64 % 64) :: UInt8.ofNat (128 + p % 64) :: rest).take (4 - 1)) = p := by
          simp only [cont, Nat.reduceSub, List.take_succ_cons, List.take_zero, List.foldl_cons, List.foldl_nil]
          rw [u8_nat (by omega), u8_nat (by omega), u8_nat (by omega)]; omega
        rw [ec, if_pos ⟨by simp, h, by rw [e]; simp⟩]
        rfl
theorem points_cons {p : Nat} (h : scalarB (p : Int) = true) (rest : List UInt8) : points (encL (p : Int) ++ rest) = (points rest).map (p :: ·) := by
  rw [points_some (first_enc h rest), List.drop_left]
/-- All are scalars. -/
def Sc (l : List Nat) : Prop := ∀ p ∈ l, scalarB (p : Int) = true
theorem points_encS {l : List Nat} (h : Sc l) : points (encS l) = some l := by
  induction l with
  | nil => rfl
  | cons p t ih =>
    rw [encS_cons, points_cons (h p (by simp)), ih (fun q hq => h q (by simp [hq]))]
    rfl
theorem points_app {l : List Nat} (h : Sc l) (s : List UInt8) : points (encS l ++ s) = (points s).map (l ++ ·) := by
  induction l with
  | nil => rw [encS_nil, List.nil_append]; cases points s <;> simp
  | cons p t ih =>
    rw [encS_cons, List.append_assoc, points_cons (h p (by simp)), ih (fun q hq => h q (by simp [hq]))]
    cases points s <;> simp
theorem points_valid : ∀ (n : Nat) (s : List UInt8) (d : List Nat), s.length ≤ n → points s = some d → Sc d ∧ encS d = s
  | 0, s, d, hn, h => by
    have : s = [] := List.eq_nil_of_length_eq_zero (by omega)
    subst this
    rw [points_nil] at h
    cases h
    exact ⟨fun p hp => by simp at hp, rfl⟩
  | n + 1, s, d, hn, h => by
    by_cases h0 : s = []
    · subst h0
      rw [points_nil] at h
      cases h
      exact ⟨fun p hp => by simp at hp, rfl⟩
    · cases hf : firstL s with
      | none => rw [points_none h0 hf] at h; cases h
      | some pn =>
        obtain ⟨p, m⟩ := pn
        obtain ⟨f1, f2, f3, f4, f5⟩ := firstL_some hf
        rw [points_some hf] at h
        cases hp : points (s.drop m) with
        | none => rw [hp] at h; cases h
        | some d' =>
          rw [hp] at h
          cases h
          obtain ⟨i1, i2⟩ := points_valid n (s.drop m) d' (by rw [List.length_drop]; omega) hp
          refine ⟨fun q hq => ?_, by rw [encS_cons, i2, f5, List.take_append_drop]⟩
          rcases List.mem_cons.1 hq with rfl | hq
          · exact f4
          · exact i1 q hq
theorem points_sc {s : List UInt8} {d : List Nat} (h : points s = some d) : Sc d := (points_valid s.length s d (Nat.le_refl _) h).1
theorem encS_points {s : List UInt8} {d : List Nat} (h : points s = some d) : encS d = s := (points_valid s.length s d (Nat.le_refl _) h).2
theorem Sc.perm {l m : List Nat} (h : Sc l) (hp : m.Perm l) : Sc m := fun p hm => h p (hp.mem_iff.1 hm)
theorem Sc.app {l m : List Nat} (h : Sc l) (k : Sc m) : Sc (l ++ m) := fun p hp => by
  rcases List.mem_append.1 hp with hp | hp
  · exact h p hp
  · exact k p hp
theorem encS_inj {l m : List Nat} (hl : Sc l) (hm : Sc m) (h : encS l = encS m) : l = m := by
  have h1 := points_encS hl
  rw [h, points_encS hm] at h1
  exact (Option.some.inj h1).symm
theorem encS_perm {l m : List Nat} (h : l.Perm m) : (encS l).length = (encS m).length := by
  unfold encS
  exact (h.flatMap_right _).length_eq
theorem mk_scalar {p : Nat} (h : mk p = true) : scalarB (p : Int) = true := by
  rw [scalar_iff]
  unfold mk markB at h
  rw [Bool.and_eq_true, decide_eq_true_eq, decide_eq_true_eq] at h
  omega

def ByCls (l : List Nat) : Prop := l.Pairwise fun x y => cls x ≤ cls y
theorem stable_self {l : List Nat} (hl : ByCls l) (r : List Nat) : ∀ k, k ≤ l.length → StableOf cmpC ((l ++ r).take k) (l.take k)
  | 0, _ => by simpa using stable_nil
  | k + 1, hk => by
    have hx : (l ++ r)[k]? = some (l[k]'(by omega)) := by
      rw [List.getElem?_append_left (by omega)]
      exact List.getElem?_eq_getElem (by omega)
    have h1 := ordR_stable (stable_self hl r k (by omega)) hx
    have h2 : ordR (l.take k) (l[k]'(by omega)) = l.take (k + 1) := by
      rw [ordR_end, List.take_succ_eq_append_getElem (by omega)]
      intro z hz
      obtain ⟨j, hj, rfl⟩ := List.getElem_of_mem hz
      rw [List.length_take] at hj
      rw [List.getElem_take]
      exact List.pairwise_iff_getElem.1 hl j k (by omega) (by omega) (by omega)
    rwa [h2] at h1
theorem stable_one {l : List Nat} (hl : ByCls l) (x : Nat) : StableOf cmpC (l ++ [x]) (ordR l x) := by
  have h1 := stable_self hl [x] l.length (Nat.le_refl _)
  rw [List.take_length] at h1
  have h2 := ordR_stable (x := x) h1 (by simp)
  rwa [List.take_of_length_le (by simp)] at h2
theorem stable_two {l : List Nat} (hl : ByCls l) (x y : Nat) : StableOf cmpC (l ++ [x, y]) (ordR (ordR l x) y) := by
  have h1 := stable_self hl [x, y] l.length (Nat.le_refl _)
  rw [List.take_length] at h1
  have h2 := ordR_stable (x := x) h1 (by simp)
  have h3 := ordR_stable (k := l.length + 1) (x := y) h2 (by simp)
  rwa [List.take_of_length_le (by simp)] at h3
theorem ordR_bycls {l : List Nat} (hl : ByCls l) (x : Nat) : ByCls (ordR l x) := stable_pair (stable_one hl x)
/-- Within one class the stable sort keeps the order. -/
theorem stable_filter {xs ys : List Nat} (h : StableOf cmpC xs ys) (c : Int) : (ys.filter fun z => decide (cls z = c)) = xs.filter fun z => decide (cls z = c) := by
  obtain ⟨p, p1, p2, rfl⟩ := h
  have e1 : (p.map (·.1)).filter (fun z => decide (cls z = c)) = (p.filter fun q => decide (cls q.1 = c)).map (·.1) := by rw [List.filter_map]; rfl
  have e2 : xs.filter (fun z => decide (cls z = c)) = (xs.zipIdx.filter fun q => decide (cls q.1 = c)).map (·.1) := by
    conv => lhs; rw [← List.zipIdx_map_fst 0 xs]
    rw [List.filter_map]; rfl
  rw [e1, e2]
  congr 1
  refine sorted_unique cmpC_is (p1.filter _) (p2.filter _) ?_
  have hz : xs.zipIdx.Pairwise fun a b => a.2 < b.2 := by
    rw [List.pairwise_iff_getElem]
    intro i j hi hj hij
    simp
    exact hij
  rw [List.pairwise_filter]
  refine hz.imp fun {a b} hab ha hb => ?_
  have h1 := of_decide_eq_true ha
  have h2 := of_decide_eq_true hb
  unfold lexLt cmpC
  right
  exact ⟨by omega, hab⟩
theorem by_class : ∀ (l m : List Nat), ByCls l → ByCls m → (∀ c : Int, (l.filter fun z => decide (cls z = c)) = m.filter fun z => decide (cls z = c)) → l = m
  | [], [], _, _, _ => rfl
  | [], y :: m, _, _, h => by
    have := h (cls y)
    simp at this
  | x :: l, [], _, _, h => by
    have := h (cls x)
    simp at this
  | x :: l, y :: m, hl, hm, h => by
    have hx : x ∈ y :: m := by
      have h1 : x ∈ (y :: m).filter (fun z => decide (cls z = cls x)) := by rw [← h (cls x)]; simp
      exact (List.mem_filter.1 h1).1
    have hy : y ∈ x :: l := by
      have h1 : y ∈ (x :: l).filter (fun z => decide (cls z = cls y)) := by rw [h (cls y)]; simp
      exact (List.mem_filter.1 h1).1
    have c1 : cls y ≤ cls x := by
      rcases List.mem_cons.1 hx with rfl | hx
      · exact Int.le_refl _
      · exact (List.pairwise_cons.1 hm).1 x hx
    have c2 : cls x ≤ cls y := by
      rcases List.mem_cons.1 hy with rfl | hy
      · exact Int.le_refl _
      · exact (List.pairwise_cons.1 hl).1 y hy
    have e : cls x = cls y := by omega
    have hxy : x = y := by
      have h1 := h (cls x)
      rw [List.filter_cons_of_pos (by simp), List.filter_cons_of_pos (by simp [e])] at h1
      injection h1
    subst hxy
    congr 1
    refine by_class l m (List.pairwise_cons.1 hl).2 (List.pairwise_cons.1 hm).2 fun c => ?_
    have h1 := h c
    by_cases hc : cls x = c
    · rw [List.filter_cons_of_pos (by simp [hc]), List.filter_cons_of_pos (by simp [hc])] at h1
      injection h1
    · rwa [List.filter_cons_of_neg (by simp [hc]), List.filter_cons_of_neg (by simp [hc])] at h1
theorem ordR_comm {l : List Nat} {a b : Nat} (hl : ByCls l) (h : cls a ≠ cls b) : ordR (ordR l a) b = ordR (ordR l b) a := by
  have hp1 := stable_two hl a b
  have hp2 := stable_two hl b a
  refine by_class _ _ (stable_pair hp1) (stable_pair hp2) fun c => ?_
  rw [stable_filter hp1, stable_filter hp2, List.filter_append, List.filter_append]
  congr 1
  by_cases ha : cls a = c
  · have hb : ¬ cls b = c := fun hb => h (by omega)
    simp [List.filter_cons, ha, hb]
  · by_cases hb : cls b = c <;> simp [List.filter_cons, ha, hb]
theorem ordR_same {l : List Nat} {a b : Nat} (hl : ByCls l) (h : cls a = cls b) (he : ordR (ordR l a) b = ordR (ordR l b) a) : a = b := by
  have h1 := stable_filter (stable_two hl a b) (cls a)
  have h2 := stable_filter (stable_two hl b a) (cls a)
  rw [he, h2, List.filter_append, List.filter_append] at h1
  have h3 := List.append_cancel_left h1
  simp [List.filter_cons, h] at h3
  exact h3.2
/-- The last cluster is open: two marks go into it. -/
theorem ordGo_two (d : List Nat) : ∀ c, ByCls c → ∃ f l, ByCls l ∧ ∀ x y, mk x = true → mk y = true → ordGo c (d ++ [x, y]) = f ++ ordR (ordR l x) y := by
  induction d with
  | nil =>
    intro c hc
    refine ⟨[], c, hc, fun x y hx hy => ?_⟩
    simp [ordGo, hx, hy]
  | cons p t ih =>
    intro c hc
    by_cases hp : mk p = true
    · obtain ⟨f, l, hl, h⟩ := ih (ordR c p) (ordR_bycls hc p)
      refine ⟨f, l, hl, fun x y hx hy => ?_⟩
      rw [List.cons_append]
      show (if mk p = true then ordGo (ordR c p) (t ++ [x, y]) else _) = _
      rw [if_pos hp, h x y hx hy]
    · obtain ⟨f, l, hl, h⟩ := ih [p] (List.pairwise_singleton _ _)
      refine ⟨c ++ f, l, hl, fun x y hx hy => ?_⟩
      rw [List.cons_append]
      show (if mk p = true then _ else c ++ ordGo [p] (t ++ [x, y])) = _
      rw [if_neg hp, h x y hx hy, List.append_assoc]
theorem swaps (d : List Nat) {a b : Nat} (ha : mk a = true) (hb : mk b = true) : (ords (d ++ [a, b]) = ords (d ++ [b, a])) ↔ (a = b ∨ cls a ≠ cls b) := by
  obtain ⟨f, l, hl, h⟩ := ordGo_two d [] List.Pairwise.nil
  unfold ords
  rw [h a b ha hb, h b a hb ha]
  constructor
  · intro he
    by_cases hc : cls a = cls b
    · exact .inl (ordR_same hl hc (List.append_cancel_left he))
    · exact .inr hc
  · rintro (rfl | hc)
    · rfl
    · rw [ordR_comm hl hc]
end Go.Proofs.YtdpllfgnppeneaaGreatDoor.Ru

/-
  PLAIN LAW: how the clusters of a list of points look: the first scalar of a later one is no mark, all others are marks.
-/
namespace Go.Proofs.YtdpllfgnppeneaaGreatDoor
open Ru
set_option linter.unusedVariables false

theorem clus_heads (l : List Nat) : Fresh l → ∀ c ∈ clus l, ∃ p ms, c = p :: ms ∧ mk p = false ∧ ∀ m ∈ ms, mk m = true :=
  seg_ind (P := fun l => Fresh l → ∀ c ∈ clus l, ∃ p ms, c = p :: ms ∧ mk p = false ∧ ∀ m ∈ ms, mk m = true) (fun _ c hc => by cases hc) (fun p ms rest hm hr ih hf c hc => by
    rw [clus_seg p ms rest hm hr] at hc
    rcases List.mem_cons.1 hc with rfl | h
    · exact ⟨p, ms, rfl, hf p (ms ++ rest) rfl, hm⟩
    · exact ih hr c h) l
theorem clus_later {l : List Nat} {i : Nat} {c : List Nat} (h : (clus l)[i]? = some c) (hi : 0 < i) : ∃ p ms, c = p :: ms ∧ mk p = false ∧ ∀ m ∈ ms, mk m = true := by
  by_cases hl : l = []
  · subst hl
    simp [clus] at h
  · obtain ⟨p, ms, rest, rfl, hm, hr⟩ := segs hl
    rw [clus_seg p ms rest hm hr] at h
    obtain ⟨j, rfl⟩ : ∃ j, i = j + 1 := ⟨i - 1, by omega⟩
    rw [List.getElem?_cons_succ] at h
    exact clus_heads rest hr c (List.mem_of_getElem? h)
theorem clus_any_at {l : List Nat} {i : Nat} {c : List Nat} (h : (clus l)[i]? = some c) : ∃ p ms, c = p :: ms ∧ ∀ m ∈ ms, mk m = true := clus_is l c (List.mem_of_getElem? h)
theorem clus_sc {l : List Nat} {i : Nat} {c : List Nat} (hs : Sc l) (h : (clus l)[i]? = some c) : Sc c := fun p hp => hs p (by
  rw [← clus_flatten l]
  exact List.mem_flatten.2 ⟨c, List.mem_of_getElem? h, hp⟩)
theorem ords_clus_len (l : List Nat) : (clus (ords l)).length = (clus l).length := by rw [clus_ords, List.length_map]
end Go.Proofs.YtdpllfgnppeneaaGreatDoor

namespace Go.Proofs.YtdpllfgnppeneaaGreatDoor
open Go.RowKit
set_option linter.unusedVariables false
set_option linter.unusedSimpArgs false

set_option maxHeartbeats 400000 in
theorem scalar_any (p : Int) (w : World) : Calls Tryz.prog 100 #[.int .i64 p] w fun e w' => e = .returned (.bool (Ru.scalarB p)) ∧ w = w' := by
  by_cases h1 : 0 ≤ p
  · by_cases h2 : p ≤ 1114111
    · by_cases h3 : p < 55296
      · go_enter Tryz.func100, Tryz.ntmps100
        go_wp2
        go_ret
        exact ⟨ret_bool (by simp [Ru.scalarB, h1, h2, h3]), rfl⟩
      · by_cases h4 : 57343 < p
        · go_enter Tryz.func100, Tryz.ntmps100
          go_wp2
          go_ret
          exact ⟨ret_bool (by simp [Ru.scalarB, h1, h2, h3, h4]), rfl⟩
        · go_enter Tryz.func100, Tryz.ntmps100
          go_wp2
          go_ret
          exact ⟨ret_bool (by simp [Ru.scalarB, h1, h2, h3, h4]), rfl⟩
    · go_enter Tryz.func100, Tryz.ntmps100
      go_wp2
      go_ret
      exact ⟨ret_bool (by simp [Ru.scalarB]; omega), rfl⟩
  · go_enter Tryz.func100, Tryz.ntmps100
    go_wp2
    go_ret
    exact ⟨ret_bool (by simp [Ru.scalarB]; omega), rfl⟩

/-- 'string([]byte{..})': the new block's bytes. -/
theorem conv_bytes (w : World) (vs : List Int) (hv : ∀ v ∈ vs, 0 ≤ v ∧ v < 256) :
    (convert 100 9 (.slice (some ⟨w.heap.size, 0, none⟩) vs.length vs.length)).run Tryz.prog (w.alloc (.cells (vs.map (.int .u8)).toArray 5)) =
      .ok (.string ⟨(vs.map fun v => UInt8.ofNat v.toNat).toArray⟩) (w.alloc (.cells (vs.map (.int .u8)).toArray 5)) := by
  have := run_convert_bytes_back (P := Tryz.prog) (w.alloc (.cells (vs.map (.int .u8)).toArray 5)) 100 9 5 ⟨w.heap.size, 0, none⟩ vs.length (vs.map fun v => UInt8.ofNat v.toNat)
    Tryz.underlying100 Tryz.underlying5 Tryz.underlying9 (fun j hj => by
      have e1 : (⟨w.heap.size, 0, none⟩ : Addr).add j = ⟨w.heap.size, j, none⟩ := by
        unfold Addr.add
        split
        · rename_i h; simp [h]
        · simp
      rw [e1, World.cell?_alloc_at _ _ _ _ rfl]
      simp at hj ⊢
      have := hv vs[j] (List.getElem_mem _)
      rw [show max vs[j] 0 % 256 = vs[j] by omega]
      exact List.getElem?_eq_getElem hj)
  simpa using this
def strL (l : List UInt8) : ByteArray := ⟨l.toArray⟩
set_option maxRecDepth 1000000 in
set_option maxHeartbeats 800000 in
theorem encoded_any (p : Nat) (w : World) (h : p ≤ 1114111) :
    Calls Tryz.prog 101 #[.int .i64 p] w fun e w' => e = .returned (.string (strL (Ru.encL p))) ∧ Below w.heap.size w w' := by
  have hr := Ru.encI_range (p := p) (by omega) (by omega)
  by_cases h1 : p < 128
  · have e : Ru.encI p = [(p : Int)] := by unfold Ru.encI; rw [if_pos (by omega)]
    rw [e] at hr
    have hcv := conv_bytes w _ hr
    have E := Lib.hid e; clear e hr
    simp only [List.map_cons, List.map_nil, List.length_cons, List.length_nil, Nat.zero_add] at hcv
    go_enter Tryz.func101, Tryz.ntmps101
    go_wp2
    go_ret
    exact ⟨by unfold strL Ru.encL; rw [E.out]; rfl, below_new _ _⟩
  · by_cases h2 : p < 2048
    · have e : Ru.encI p = [192 + (p : Int) / 64, 128 + (p : Int) % 64] := by unfold Ru.encI; rw [if_neg (by omega), if_pos (by omega)]
      rw [e] at hr
      have hcv := conv_bytes w _ hr
      have E := Lib.hid e; clear e hr
      simp only [List.map_cons, List.map_nil, List.length_cons, List.length_nil, Nat.zero_add, Nat.reduceAdd] at hcv
      go_enter Tryz.func101, Tryz.ntmps101
      go_wp2
      go_ret
      exact ⟨by unfold strL Ru.encL; rw [E.out]; rfl, below_new _ _⟩
    · by_cases h3 : p < 65536
      · have e : Ru.encI p = [224 + (p : Int) / 4096, 128 + (p : Int) / 64 % 64, 128 + (p : Int) % 64] := by unfold Ru.encI; rw [if_neg (by omega), if_neg (by omega), if_pos (by omega)]
        rw [e] at hr
        have hcv := conv_bytes w _ hr
        have E := Lib.hid e; clear e hr
        simp only [List.map_cons, List.map_nil, List.length_cons, List.length_nil, Nat.zero_add, Nat.reduceAdd] at hcv
        go_enter Tryz.func101, Tryz.ntmps101
        go_wp2
        go_ret
        exact ⟨by unfold strL Ru.encL; rw [E.out]; rfl, below_new _ _⟩
      · have e : Ru.encI p = [240 + (p : Int) / 262144, 128 + (p : Int) / 4096 % 64, 128 + (p : Int) / 64 % 64, 128 + (p : Int) % 64] := by unfold Ru.encI; rw [if_neg (by omega), if_neg (by omega), if_neg (by omega)]
        rw [e] at hr
        have hcv := conv_bytes w _ hr
        have E := Lib.hid e; clear e hr
        simp only [List.map_cons, List.map_nil, List.length_cons, List.length_nil, Nat.zero_add, Nat.reduceAdd] at hcv
        go_enter Tryz.func101, Tryz.ntmps101
        go_wp2
        go_ret
        exact ⟨by unfold strL Ru.encL; rw [E.out]; rfl, below_new _ _⟩
end Go.Proofs.YtdpllfgnppeneaaGreatDoor
