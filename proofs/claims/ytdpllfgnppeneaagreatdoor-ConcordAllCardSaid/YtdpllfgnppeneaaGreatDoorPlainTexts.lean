/-
  PLAIN LAW: the texts of the neighbors of a note, collected along the tier, are those of its line. No program in sight.
-/
import Derived.Test.YtdpllfgnppeneaaGreatDoorPlainLight
import Derived.Test.YtdpllfgnppeneaaGreatDoorHit
set_option linter.unusedVariables false
set_option linter.unusedSimpArgs false
namespace Go.Proofs.YtdpllfgnppeneaaGreatDoor
open Go.RowKit Ru Lay Srt Col

theorem ids_nodup {l : List Nt} (h : l.Pairwise fun x y => x.nid < y.nid) : (l.map Nt.nid).Nodup := by
  unfold List.Nodup
  rw [List.pairwise_map]
  exact h.imp fun h => by omega
theorem ofL_nodup {T : List Ti} {l : List Nt} {tier : Int} (hL : LightN T l) : (ofL T l tier).Nodup := by
  unfold ofL
  have h1 := (ofK_perm (T := T) (l := l) (tier := tier) l.length (Nat.le_refl _)).map Nt.nid
  rw [h1.nodup_iff, List.take_length]
  have h2 := ids_nodup hL.ids
  unfold List.Nodup at *
  rw [List.pairwise_map] at *
  exact h2.filter _
theorem ofL_get {T : List Ti} {l : List Nt} {tier z : Int} (hL : LightN T l) (h : z ∈ ofL T l tier) : ∃ y, getN l z = some y ∧ y.nid = z := by
  unfold ofL at h
  obtain ⟨y, hy, rfl⟩ := List.mem_map.1 h
  have := (ofK_mem (Nat.le_refl _) hy).1
  rw [List.take_length] at this
  exact ⟨y, hL.get this, rfl⟩
theorem ofL_len {T : List Ti} {l : List Nt} {tier : Int} : (ofL T l tier).length ≤ l.length := by
  unfold ofL
  rw [List.length_map, (ofK_perm l.length (Nat.le_refl _)).length_eq, List.take_length]
  exact List.length_filter_le _ _
/-- Whether a number is that of a neighbor of x. -/
def nearP (l : List Nt) (x : Nt) (id : Int) : Bool := decide (((getN l id).getD nt0).parent = x.parent)
def nearK (l : List Nt) (x : Nt) (ids : List Int) (i : Nat) : List Int := (ids.take i).filter (nearP l x)
theorem nearK_next {l : List Nt} {x : Nt} {ids : List Int} {i : Nat} {y : Int} (h : ids[i]? = some y) : nearK l x ids (i + 1) = nearK l x ids i ++ (if nearP l x y = true then [y] else []) := by
  unfold nearK
  rw [take_at2 h, List.filter_append, List.filter_cons]
  simp
theorem nearK_all {T : List Ti} {l : List Nt} {x : Nt} {n : Nat} (h : (ofL T l x.tier).length ≤ n) : nearK l x (ofL T l x.tier) n = nearL T l x := by
  unfold nearK nearL
  rw [List.take_of_length_le h]
  rfl
theorem nearK_fresh {l : List Nt} {x : Nt} {ids : List Int} {i : Nat} {y : Int} (hn : ids.Nodup) (h : ids[i]? = some y) : y ∉ nearK l x ids i := fun hm => by
  have h1 := (List.mem_filter.1 hm).1
  obtain ⟨j, hj⟩ := List.getElem?_of_mem h1
  rw [List.getElem?_take] at hj
  split at hj
  · rename_i hji
    obtain ⟨hil, hiy⟩ := List.getElem?_eq_some_iff.1 h
    obtain ⟨hjl, hjy⟩ := List.getElem?_eq_some_iff.1 hj
    exact List.pairwise_iff_getElem.1 hn j i hjl hil hji (hjy.trans hiy.symm)
  · cases hj
/-- Where the number lies. -/
def AtOK (ks : List Int) (id : Int) (a : Nat) : Prop := ∀ k, ks[k]? = some id → a = k
theorem atOK_nil (id : Int) : AtOK [] id 0 := fun k h => by simp at h
theorem atOK_next {ks : List Int} {id y : Int} {a : Nat} (h : AtOK ks id a) (hf : y ∉ ks) : AtOK (ks ++ [y]) id (if y = id then ks.length else a) := fun k hk => by
  by_cases e : k < ks.length
  · rw [List.getElem?_append_left e] at hk
    have hne : ¬ y = id := fun e2 => hf (by rw [e2]; exact List.mem_of_getElem? hk)
    rw [if_neg hne]
    exact h k hk
  · rw [List.getElem?_append_right (by omega)] at hk
    have h0 := (List.getElem?_eq_some_iff.1 hk).1
    rw [List.length_singleton] at h0
    have h1 : k - ks.length = 0 := by omega
    rw [h1] at hk
    simp at hk
    rw [if_pos hk]
    omega
theorem texts_parts {S : List ByteArray} {k N K : Nat} {t : ByteArray} (hK : S.length = K) (hk : S[k]? = some t) : ((S.take k).drop (k - min N K)) ++ [t] ++ ((S.drop (k + 1)).take (min N K)) = (S.take (min K (k + N + 1))).drop (k - N) := by
  obtain ⟨hkl, hkt⟩ := List.getElem?_eq_some_iff.1 hk
  have e1 : k - min N K = k - N := by omega
  have e2 : S.take (min K (k + N + 1)) = S.take k ++ t :: (S.drop (k + 1)).take (min N K) := by
    have e3 : S = S.take k ++ t :: S.drop (k + 1) := by
      rw [← hkt, ← List.drop_eq_getElem_cons hkl, List.take_append_drop]
    obtain ⟨p, hp⟩ : ∃ p, min K (k + N + 1) = k + (p + 1) := ⟨min K (k + N + 1) - (k + 1), by omega⟩
    have e4 : (S.drop (k + 1)).take p = (S.drop (k + 1)).take (min N K) := by
      rw [List.take_eq_take_iff, List.length_drop]
      omega
    conv => lhs; rw [e3]
    rw [hp, List.take_append, List.take_of_length_le (by rw [List.length_take]; omega), List.length_take, show k + (p + 1) - min k S.length = p + 1 by omega, List.take_succ_cons, e4]
  rw [e1, e2, List.drop_append_of_le_length (by rw [List.length_take]; omega), List.append_assoc]
  rfl
theorem texts_left {S : List ByteArray} {k N K : Nat} (hK : S.length = K) (hk : k < K) : ((S.take k).drop (k - min N K)).length = k - (k - N) := by
  rw [List.length_drop, List.length_take]
  omega
theorem texts_len (l : List Nt) (ks : List Int) : (textsN l ks).length = ks.length := by unfold textsN; rw [List.length_map]
/-- The line of a note of a document that is right, from the texts along the tier. -/
theorem hit_near {T : List Ti} {l : List Nt} (hL : LightN T l) {rid id : Int} {x : Nt} (hx : getN l id = some x) {a N : Nat} (ha : AtOK (nearL T l x) id a) :
    ∃ S, textsN l (nearL T l x) = S ∧ a < S.length ∧ hitL rid T.length l id (N : Int) = some { rid := rid, nid := id, left := (S.take a).drop (a - min N S.length), key := x.text, right := (S.drop (a + 1)).take (min N S.length) } ∧ S[a]? = some x.text := by
  obtain ⟨hm, hxi⟩ := getN_mem hx
  have hk := nearL_kids hL hm
  have hself := kids_self (tn := T.length) hx (hL.tier x hm)
  obtain ⟨k, h1, h2, h3⟩ := idxOf_at hself
  rw [hk] at ha ⊢
  have hak : a = k := ha k h3
  subst hak
  refine ⟨_, rfl, by rw [texts_len]; exact h1, ?_, ?_⟩
  · unfold hitL
    rw [hx]
    show some (hitK rid id x l _ _) = _
    unfold hitK
    rw [h2, texts_len]
    have e : (min (max (N : Int) 0) ((kidsL T.length l x.parent x.tier).length : Int)).toNat = min N (kidsL T.length l x.parent x.tier).length := by omega
    simp only [Int.toNat_natCast, e]
    unfold textsN
    simp only [List.map_take, List.map_drop]
  · unfold textsN
    rw [List.getElem?_map, h3]
    show some (textN l id) = _
    unfold textN
    rw [hx]
    rfl
end Go.Proofs.YtdpllfgnppeneaaGreatDoor
