/-
  PLAIN LAW of the chapter on runes: clusters and the order of marks. No program in sight.
-/
import Derived.Test.YtacfeabdeaikhaaDoorPlainRunes
import Derived.Test.YtacfeabdeaikhaaDoorPlainInsert
import Derived.Test.YtacfeabdeaikhaaDoorClass
set_option linter.unusedVariables false
set_option linter.unusedSimpArgs false
namespace Go.Proofs.YtacfeabdeaikhaaDoor.Ru
open Go.Proofs.YtacfeabdeaikhaaDoor.Col Go.Proofs.YtacfeabdeaikhaaDoor.Srt

def mk (p : Nat) : Bool := markB (p : Int)
def cls (p : Nat) : Int := classI (p : Int)
def encS (l : List Nat) : List UInt8 := l.flatMap fun (p : Nat) => encL (p : Int)
theorem encS_nil : encS [] = [] := rfl
theorem encS_app (a b : List Nat) : encS (a ++ b) = encS a ++ encS b := by unfold encS; simp
theorem encS_one (p : Nat) : encS [p] = encL (p : Int) := by unfold encS; simp
theorem encS_cons (p : Nat) (t : List Nat) : encS (p :: t) = encL (p : Int) ++ encS t := by unfold encS; simp
def ofI (l : List Int) : Option (List UInt8) := if l.all scalarB then some (l.flatMap encL) else none

/-- The clusters of what is left, c being the one that is open. -/
def cluGo (c : List Nat) : List Nat → List (List Nat)
  | [] => [c]
  | p :: t => if mk p = true then cluGo (c ++ [p]) t else c :: cluGo [p] t
def clus : List Nat → List (List Nat)
  | [] => []
  | p :: t => cluGo [p] t
/-- Where a mark is inserted: behind all whose class is not greater. -/
def posR (l : List Nat) (m : Nat) : Nat → Nat
  | 0 => 0
  | k + 1 => if mk (l.getD k 0) = true ∧ cls m < cls (l.getD k 0) then posR l m k else k + 1
def ordR (l : List Nat) (m : Nat) : List Nat := l.take (posR l m l.length) ++ m :: l.drop (posR l m l.length)
/-- The points in order, c being the cluster (in order) that is open. -/
def ordGo (c : List Nat) : List Nat → List Nat
  | [] => c
  | p :: t => if mk p = true then ordGo (ordR c p) t else c ++ ordGo [p] t
def ords (l : List Nat) : List Nat := ordGo [] l
def sortC : List Nat → List Nat
  | [] => []
  | p :: t => t.foldl ordR [p]
def order (s : List UInt8) : List UInt8 :=
  match points s with
  | none => s
  | some d => encS (ords d)

theorem mk_cls (p : Nat) : cls p = 0 ↔ mk p = false := class_zero _
theorem cls_nonneg (p : Nat) : 0 ≤ cls p := (class_range _).1
theorem posR_le (l : List Nat) (m : Nat) : ∀ k, posR l m k ≤ k
  | 0 => Nat.le_refl _
  | k + 1 => by
    unfold posR
    split
    · exact Nat.le_trans (posR_le l m k) (Nat.le_succ k)
    · exact Nat.le_refl _
theorem posR_above (l : List Nat) (m : Nat) : ∀ k j, posR l m k ≤ j → j < k → cls m < cls (l.getD j 0)
  | 0, j, _, h => by omega
  | k + 1, j, h1, h2 => by
    unfold posR at h1
    split at h1
    · rename_i hc
      by_cases e : j = k
      · subst e; exact hc.2
      · exact posR_above l m k j h1 (by omega)
    · omega
theorem posR_at (l : List Nat) (m : Nat) : ∀ k, 0 < posR l m k → cls (l.getD (posR l m k - 1) 0) ≤ cls m
  | 0, h => by simp [posR] at h
  | k + 1, h => by
    unfold posR at h ⊢
    split
    · rename_i hc
      rw [if_pos hc] at h
      exact posR_at l m k h
    · rename_i hc
      rw [Nat.add_sub_cancel]
      by_cases hm : mk (l.getD k 0) = true
      · have : ¬ cls m < cls (l.getD k 0) := fun h2 => hc ⟨hm, h2⟩
        omega
      · have h0 := (mk_cls (l.getD k 0)).2 (by simpa using hm)
        have := cls_nonneg m
        omega
/-- The comparison of classes. -/
def cmpC (a b : Nat) : Int := cls a - cls b
theorem cmpC_is : IsCmp cmpC := IsCmp.diff cls
theorem getD_of {l : List Nat} {j y : Nat} (h : l[j]? = some y) : l.getD j 0 = y := by rw [List.getD, h]; rfl
/-- One insertion is a step of the stable sort. -/
theorem ordR_stable {l : List Nat} {k x : Nat} {ys : List Nat} (h : StableOf cmpC (l.take k) ys) (hx : l[k]? = some x) : StableOf cmpC (l.take (k + 1)) (ordR ys x) := by
  refine stable_insert cmpC_is h hx (posR_le _ _ _) (fun y h0 hy => ?_) (fun j y hj hy => ?_)
  · have := posR_at ys x ys.length h0
    rw [getD_of hy] at this
    unfold cmpC; omega
  · have hjl := (List.getElem?_eq_some_iff.1 hy).1
    have := posR_above ys x ys.length j hj hjl
    rw [getD_of hy] at this
    unfold cmpC; omega
theorem foldl_stable (p : Nat) (t : List Nat) : ∀ k, k ≤ t.length → StableOf cmpC ((p :: t).take (k + 1)) ((t.take k).foldl ordR [p])
  | 0, _ => by
    have h := ordR_stable (l := p :: t) (k := 0) (x := p) (ys := []) (by simpa using stable_nil) rfl
    simpa [ordR, posR] using h
  | k + 1, hk => by
    have ih := foldl_stable p t k (by omega)
    have hx : t[k]? = some (t[k]'(by omega)) := List.getElem?_eq_getElem (by omega)
    have h := ordR_stable (l := p :: t) (k := k + 1) (x := t[k]'(by omega)) ih (by rw [List.getElem?_cons_succ]; exact hx)
    rw [List.take_succ_eq_append_getElem (by omega : k < t.length), List.foldl_append]
    exact h
theorem sortC_stable (c : List Nat) : StableOf cmpC c (sortC c) := by
  cases c with
  | nil => exact stable_nil
  | cons p t =>
    have h := foldl_stable p t t.length (Nat.le_refl _)
    rw [List.take_of_length_le (Nat.le_refl _)] at h
    rw [List.take_of_length_le (by simp)] at h
    exact h
theorem sortC_eq {c ys : List Nat} (h : StableOf cmpC c ys) : ys = sortC c := h.unique cmpC_is (sortC_stable c)
theorem sortC_perm (c : List Nat) : (sortC c).Perm c := (sortC_stable c).perm
theorem ords_cons (p : Nat) (t : List Nat) : ords (p :: t) = ordGo [p] t := by
  unfold ords
  show (if mk p = true then ordGo (ordR [] p) t else [] ++ ordGo [p] t) = _
  split
  · rfl
  · simp
theorem ordGo_marks (c ms rest : List Nat) (h : ∀ m ∈ ms, mk m = true) : ordGo c (ms ++ rest) = ordGo (ms.foldl ordR c) rest := by
  induction ms generalizing c with
  | nil => rfl
  | cons m ms ih =>
    show (if mk m = true then ordGo (ordR c m) (ms ++ rest) else _) = _
    rw [if_pos (h m (by simp)), ih _ (fun x hx => h x (by simp [hx]))]
    rfl
/-- What follows is empty or begins with no mark. -/
def Fresh (rest : List Nat) : Prop := ∀ p t, rest = p :: t → mk p = false
theorem ordGo_fresh (c rest : List Nat) (h : Fresh rest) : ordGo c rest = c ++ ords rest := by
  cases rest with
  | nil => simp [ordGo, ords]
  | cons p t =>
    show (if mk p = true then _ else c ++ ordGo [p] t) = _
    rw [h p t rfl, if_neg (by simp), ords_cons]
theorem ords_seg (p : Nat) (ms rest : List Nat) (h : ∀ m ∈ ms, mk m = true) (hr : Fresh rest) : ords (p :: ms ++ rest) = sortC (p :: ms) ++ ords rest := by
  rw [List.cons_append, ords_cons, ordGo_marks _ _ _ h, ordGo_fresh _ _ hr]
  rfl
theorem cluGo_marks (c ms rest : List Nat) (h : ∀ m ∈ ms, mk m = true) : cluGo c (ms ++ rest) = cluGo (c ++ ms) rest := by
  induction ms generalizing c with
  | nil => simp
  | cons m ms ih =>
    show (if mk m = true then cluGo (c ++ [m]) (ms ++ rest) else _) = _
    rw [if_pos (h m (by simp)), ih _ (fun x hx => h x (by simp [hx]))]
    simp
theorem cluGo_fresh (c rest : List Nat) (h : Fresh rest) : cluGo c rest = c :: clus rest := by
  cases rest with
  | nil => rfl
  | cons p t =>
    show (if mk p = true then _ else c :: cluGo [p] t) = _
    rw [h p t rfl, if_neg (by simp)]
    rfl
theorem clus_seg (p : Nat) (ms rest : List Nat) (h : ∀ m ∈ ms, mk m = true) (hr : Fresh rest) : clus (p :: ms ++ rest) = (p :: ms) :: clus rest := by
  rw [List.cons_append]
  show cluGo [p] (ms ++ rest) = _
  rw [cluGo_marks _ _ _ h, cluGo_fresh _ _ hr]
  rfl
/-- Points part into a cluster and what follows. -/
theorem segs {l : List Nat} (h : l ≠ []) : ∃ p ms rest, l = p :: ms ++ rest ∧ (∀ m ∈ ms, mk m = true) ∧ Fresh rest := by
  cases l with
  | nil => exact absurd rfl h
  | cons p t =>
    refine ⟨p, t.takeWhile mk, t.dropWhile mk, by simp [List.takeWhile_append_dropWhile], fun m hm => ?_, fun q u hq => ?_⟩
    · have := List.all_takeWhile (p := mk) (l := t)
      exact List.all_eq_true.1 this m hm
    · have := List.head?_dropWhile_not mk t
      rw [hq] at this
      simpa using this
/-- Clusters, one after the other: an induction. -/
theorem seg_ind {P : List Nat → Prop} (h0 : P []) (h1 : ∀ p ms rest, (∀ m ∈ ms, mk m = true) → Fresh rest → P rest → P (p :: ms ++ rest)) (l : List Nat) : P l := by
  obtain ⟨n, hn⟩ : ∃ n, l.length = n := ⟨_, rfl⟩
  induction n using Nat.strongRecOn generalizing l with
  | _ n ih =>
    by_cases h : l = []
    · subst h; exact h0
    · obtain ⟨p, ms, rest, rfl, hm, hr⟩ := segs h
      exact h1 p ms rest hm hr (ih rest.length (by rw [← hn]; simp; omega) rest rfl)
theorem clus_flatten (l : List Nat) : (clus l).flatten = l :=
  seg_ind (P := fun l => (clus l).flatten = l) rfl (fun p ms rest hm hr ih => by rw [clus_seg p ms rest hm hr, List.flatten_cons, ih]) l
theorem ords_clus (l : List Nat) : ords l = (clus l).flatMap sortC :=
  seg_ind (P := fun l => ords l = (clus l).flatMap sortC) rfl (fun p ms rest hm hr ih => by rw [ords_seg p ms rest hm hr, clus_seg p ms rest hm hr, List.flatMap_cons, ih]) l
theorem ords_perm (l : List Nat) : (ords l).Perm l :=
  seg_ind (P := fun l => (ords l).Perm l) (List.Perm.refl _) (fun p ms rest hm hr ih => by rw [ords_seg p ms rest hm hr]; exact (sortC_perm _).append ih) l
/-- A cluster: something, and marks behind it. -/
def IsClu (c : List Nat) : Prop := ∃ p ms, c = p :: ms ∧ ∀ m ∈ ms, mk m = true
theorem clus_is (l : List Nat) : ∀ c ∈ clus l, IsClu c :=
  seg_ind (P := fun l => ∀ c ∈ clus l, IsClu c) (fun c hc => by simp [clus] at hc) (fun p ms rest hm hr ih c hc => by
    rw [clus_seg p ms rest hm hr] at hc
    rcases List.mem_cons.1 hc with rfl | hc
    · exact ⟨p, ms, rfl, hm⟩
    · exact ih c hc) l
theorem ordR_head (p : Nat) (t : List Nat) (m : Nat) (h : mk p = false) : ∃ u, ordR (p :: t) m = p :: u ∧ u.Perm (m :: t) := by
  have h0 : 0 < posR (p :: t) m (p :: t).length := by
    have : ∀ k, 0 < k → 0 < posR (p :: t) m k := by
      intro k
      induction k with
      | zero => intro h; omega
      | succ k ih =>
        intro _
        unfold posR
        split
        · rename_i hc
          rcases Nat.eq_zero_or_pos k with e | e
          · subst e
            rw [List.getD_cons_zero] at hc
            rw [h] at hc
            cases hc.1
          · exact ih e
        · omega
    exact this _ (by simp)
  obtain ⟨k, hk⟩ : ∃ k, posR (p :: t) m (p :: t).length = k + 1 := ⟨posR (p :: t) m (p :: t).length - 1, by omega⟩
  unfold ordR
  rw [hk]
  refine ⟨t.take k ++ m :: t.drop k, by simp, ?_⟩
  refine List.Perm.trans List.perm_middle ?_
  rw [List.take_append_drop]
theorem ordR_perm (l : List Nat) (m : Nat) : (ordR l m).Perm (m :: l) := by
  unfold ordR
  refine List.Perm.trans List.perm_middle ?_
  rw [List.take_append_drop]
theorem foldl_head (p : Nat) (ms : List Nat) (t : List Nat) (h : mk p = false) : ∃ u, ms.foldl ordR (p :: t) = p :: u ∧ u.Perm (ms ++ t) := by
  induction ms generalizing t with
  | nil => exact ⟨t, rfl, by simp⟩
  | cons m ms ih =>
    obtain ⟨u, hu, hp⟩ := ordR_head p t m h
    obtain ⟨v, hv, hq⟩ := ih u
    refine ⟨v, by rw [List.foldl_cons, hu]; exact hv, hq.trans ((List.Perm.append_left ms hp).trans ?_)⟩
    exact (List.perm_middle).trans (by simp)
/-- In order, a cluster is a cluster, and has its base in front. -/
theorem sortC_clu {p : Nat} {ms : List Nat} (hm : ∀ m ∈ ms, mk m = true) : ∃ q us, sortC (p :: ms) = q :: us ∧ (∀ m ∈ us, mk m = true) ∧ (mk p = false → q = p) ∧ (mk p = true → mk q = true) := by
  have hperm := sortC_perm (p :: ms)
  by_cases h : mk p = false
  · obtain ⟨u, hu, hp⟩ := foldl_head p ms [] h
    refine ⟨p, u, hu, fun m hmu => ?_, fun _ => rfl, fun h' => by rw [h] at h'; cases h'⟩
    have := hp.mem_iff.1 hmu
    simp at this
    exact hm m this
  · have hall : ∀ m ∈ sortC (p :: ms), mk m = true := fun m hmm => by
      rcases List.mem_cons.1 (hperm.mem_iff.1 hmm) with rfl | h2
      · simpa using h
      · exact hm m h2
    cases hs : sortC (p :: ms) with
    | nil => rw [hs] at hperm; exact absurd hperm.length_eq (by simp)
    | cons q us =>
      rw [hs] at hall
      exact ⟨q, us, rfl, fun m hmm => hall m (by simp [hmm]), fun h' => absurd h' h, fun _ => hall q (by simp)⟩
theorem ords_fresh {l : List Nat} (h : Fresh l) : Fresh (ords l) := by
  intro q u hq
  by_cases h0 : l = []
  · subst h0
    simp [ords, ordGo] at hq
  · obtain ⟨p, ms, rest, rfl, hm, hr⟩ := segs h0
    have hp := h p (ms ++ rest) rfl
    rw [ords_seg p ms rest hm hr] at hq
    obtain ⟨q', us, e, _, h2, _⟩ := sortC_clu (p := p) hm
    rw [e, h2 hp] at hq
    injection hq with h3 _
    rw [← h3]; exact hp
/-- The clusters of the points in order are the clusters, each in order. -/
theorem clus_ords (l : List Nat) : clus (ords l) = (clus l).map sortC :=
  seg_ind (P := fun l => clus (ords l) = (clus l).map sortC) rfl (fun p ms rest hm hr ih => by
    obtain ⟨q, us, e, h1, _, _⟩ := sortC_clu (p := p) hm
    rw [ords_seg p ms rest hm hr, clus_seg p ms rest hm hr, e, clus_seg q us _ h1 (ords_fresh hr), ih, List.map_cons, e]) l
theorem stable_pair {c ys : List Nat} (h : StableOf cmpC c ys) : ys.Pairwise fun a b => cls a ≤ cls b := by
  obtain ⟨p, _, p2, rfl⟩ := h
  rw [List.pairwise_map]
  refine p2.imp fun {a b} hab => ?_
  unfold lexLt cmpC at hab
  omega
theorem ordR_end {l : List Nat} {m : Nat} (h : ∀ y ∈ l, cls y ≤ cls m) : ordR l m = l ++ [m] := by
  have : posR l m l.length = l.length := by
    cases hl : l.length with
    | zero => rfl
    | succ k =>
      unfold posR
      rw [if_neg]
      intro hc
      have hk : k < l.length := by omega
      have := h (l[k]) (List.getElem_mem hk)
      have e : l.getD k 0 = l[k] := by simp [List.getD, hk]
      rw [e] at hc
      omega
  unfold ordR
  rw [this]
  simp
theorem foldl_sorted (l ms : List Nat) (h : (l ++ ms).Pairwise fun a b => cls a ≤ cls b) : ms.foldl ordR l = l ++ ms := by
  induction ms generalizing l with
  | nil => simp
  | cons m ms ih =>
    have h1 : ∀ y ∈ l, cls y ≤ cls m := fun y hy => (List.pairwise_append.1 h).2.2 y hy m (by simp)
    rw [List.foldl_cons, ordR_end h1, ih _ (by simpa using h)]
    simp
theorem sortC_idem (c : List Nat) : sortC (sortC c) = sortC c := by
  have h := stable_pair (sortC_stable c)
  cases hs : sortC c with
  | nil => rfl
  | cons q us =>
    rw [hs] at h
    exact foldl_sorted [q] us (by simpa using h)
theorem ords_idem (l : List Nat) : ords (ords l) = ords l := by
  rw [ords_clus (ords l), clus_ords, ords_clus l, List.flatMap_map]
  congr 1
  funext c
  exact sortC_idem c
theorem clus_app (l r : List Nat) (h : Fresh r) : clus (l ++ r) = clus l ++ clus r :=
  seg_ind (P := fun l => clus (l ++ r) = clus l ++ clus r) (by simp [clus]) (fun p ms rest hm hr ih => by
    have hf : Fresh (rest ++ r) := by
      intro q t hq
      cases rest with
      | nil => exact h q t hq
      | cons q' t' =>
        rw [List.cons_append] at hq
        injection hq with h1 _
        rw [← h1]; exact hr q' t' rfl
    rw [List.append_assoc, clus_seg p ms _ hm hf, clus_seg p ms rest hm hr, ih, List.cons_append]) l
theorem ords_app (l r : List Nat) (h : Fresh r) : ords (l ++ r) = ords l ++ ords r := by
  rw [ords_clus, clus_app l r h, List.flatMap_append, ← ords_clus, ← ords_clus]
end Go.Proofs.YtacfeabdeaikhaaDoor.Ru
