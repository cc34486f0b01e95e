/-
  PLAIN LAW: documents whose notes are right: the order of a tier, and the neighbors of a note. No program in sight.
-/
import Derived.Test.YtdpllfgnppeneaaGreatDoorG09
set_option linter.unusedVariables false
set_option linter.unusedSimpArgs false
namespace Go.Proofs.YtdpllfgnppeneaaGreatDoor
open Go.RowKit Ru Lay Srt Col

/-- A tier. -/
structure Ti where
  name : ByteArray
  kind : Int
  role : Int
  parent : Int
def ti0 : Ti := ⟨⟨#[]⟩, 0, 0, 0⟩
def tierT (T : List Ti) (t : Int) : Ti := T.getD t.toNat ti0
def timedK (k : Int) : Bool := decide (k = 0) || (decide (k = 1) || decide (k = 2))
/-- What orders the notes of one parent. -/
def keyT (T : List Ti) (x : Nt) : Int := if timedK (tierT T x.tier).kind = true then x.at1 else x.rank
/-- What is used of a document that is right. -/
structure LightN (T : List Ti) (l : List Nt) : Prop where
  ids : l.Pairwise fun x y => x.nid < y.nid
  tier : ∀ x ∈ l, 0 ≤ x.tier ∧ x.tier < (T.length : Int)
  par : ∀ x ∈ l, ((tierT T x.tier).kind = 0 ∧ x.parent = 0) ∨ ((tierT T x.tier).kind ≠ 0 ∧ ∃ p, getN l x.parent = some p ∧ p.tier = (tierT T x.tier).parent ∧ p.tier < x.tier)
  own : ∀ x ∈ l, if timedK (tierT T x.tier).kind = true then x.rank = 0 else x.at1 = 0
  sib : ∀ x ∈ l, ∀ y ∈ l, x.tier = y.tier → x.parent = y.parent → keyT T x = keyT T y → x = y
theorem getN_mem {l : List Nt} {id : Int} {x : Nt} (h : getN l id = some x) : x ∈ l ∧ x.nid = id := by
  unfold getN at h
  exact ⟨List.mem_of_find?_eq_some h, by simpa using List.find?_some h⟩
theorem LightN.inj {T : List Ti} {l : List Nt} (h : LightN T l) {x y : Nt} (hx : x ∈ l) (hy : y ∈ l) (e : x.nid = y.nid) : x = y := by
  obtain ⟨i, hi⟩ := List.getElem?_of_mem hx
  obtain ⟨j, hj⟩ := List.getElem?_of_mem hy
  obtain ⟨hil, hix⟩ := List.getElem?_eq_some_iff.1 hi
  obtain ⟨hjl, hjy⟩ := List.getElem?_eq_some_iff.1 hj
  rcases Nat.lt_trichotomy i j with h1 | h1 | h1
  · have := List.pairwise_iff_getElem.1 h.ids i j hil hjl h1
    rw [hix, hjy] at this; omega
  · subst h1; rw [hi] at hj; cases hj; rfl
  · have := List.pairwise_iff_getElem.1 h.ids j i hjl hil h1
    rw [hix, hjy] at this; omega
theorem LightN.get {T : List Ti} {l : List Nt} (h : LightN T l) {x : Nt} (hx : x ∈ l) : getN l x.nid = some x := by
  cases e : getN l x.nid with
  | none =>
    unfold getN at e
    rw [List.find?_eq_none] at e
    have := e x hx
    simp at this
  | some y =>
    obtain ⟨h1, h2⟩ := getN_mem e
    rw [h.inj h1 hx h2]
def parN (l : List Nt) (x : Nt) : Nt := (getN l x.parent).getD nt0
/-- Whether a note is ahead of another one of its tier (f: how many tiers up at most). -/
def befF (T : List Ti) (l : List Nt) : Nat → Nt → Nt → Bool
  | 0, _, _ => false
  | f + 1, a, b => if a.parent = b.parent then decide (keyT T a < keyT T b) else befF T l f (parN l a) (parN l b)
theorem LightN.up {T : List Ti} {l : List Nt} (h : LightN T l) {a b : Nt} {f : Nat} (ha : a ∈ l) (hb : b ∈ l) (ht : a.tier = b.tier) (hf : a.tier < ((f + 1 : Nat) : Int)) (hp : a.parent ≠ b.parent) :
    parN l a ∈ l ∧ parN l b ∈ l ∧ (parN l a).tier = (parN l b).tier ∧ (parN l a).tier < (f : Int) ∧ (parN l a).nid = a.parent ∧ (parN l b).nid = b.parent := by
  rcases h.par a ha with ⟨k0, p0⟩ | ⟨k0, p, hg, hpt, hlt⟩
  · rcases h.par b hb with ⟨k1, p1⟩ | ⟨k1, _⟩
    · exact absurd (p0.trans p1.symm) hp
    · rw [ht] at k0; exact absurd k0 k1
  · rcases h.par b hb with ⟨k1, _⟩ | ⟨_, q, hg2, hqt, hlt2⟩
    · rw [← ht] at k1; exact absurd k1 k0
    · have e1 : parN l a = p := by unfold parN; rw [hg]; rfl
      have e2 : parN l b = q := by unfold parN; rw [hg2]; rfl
      obtain ⟨m1, n1⟩ := getN_mem hg
      obtain ⟨m2, n2⟩ := getN_mem hg2
      rw [e1, e2]
      exact ⟨m1, m2, by rw [hpt, hqt, ht], by omega, n1, n2⟩
theorem befF_conn {T : List Ti} {l : List Nt} (h : LightN T l) : ∀ (f : Nat) (a b : Nt), a ∈ l → b ∈ l → a.tier = b.tier → a.tier < (f : Int) → a ≠ b → befF T l f a b = true ∨ befF T l f b a = true
  | 0, a, b, ha, _, _, hf, _ => by have := (h.tier a ha).1; omega
  | f + 1, a, b, ha, hb, ht, hf, hne => by
    unfold befF
    by_cases hp : a.parent = b.parent
    · rw [if_pos hp, if_pos hp.symm, decide_eq_true_eq, decide_eq_true_eq]
      by_cases hk : keyT T a = keyT T b
      · exact absurd (h.sib a ha b hb ht hp hk) hne
      · omega
    · rw [if_neg hp, if_neg fun e => hp e.symm]
      obtain ⟨m1, m2, h3, h4, n1, n2⟩ := h.up ha hb ht hf hp
      exact befF_conn h f _ _ m1 m2 h3 h4 fun e => hp (by rw [← n1, ← n2, e])
theorem befF_asym {T : List Ti} {l : List Nt} (h : LightN T l) : ∀ (f : Nat) (a b : Nt), a ∈ l → b ∈ l → a.tier = b.tier → a.tier < (f : Int) → befF T l f a b = true → befF T l f b a = true → False
  | 0, a, b, ha, _, _, hf, _, _ => by have := (h.tier a ha).1; omega
  | f + 1, a, b, ha, hb, ht, hf, h1, h2 => by
    unfold befF at h1 h2
    by_cases hp : a.parent = b.parent
    · rw [if_pos hp, decide_eq_true_eq] at h1
      rw [if_pos hp.symm, decide_eq_true_eq] at h2
      omega
    · rw [if_neg hp] at h1
      rw [if_neg fun e => hp e.symm] at h2
      obtain ⟨m1, m2, h3, h4, _, _⟩ := h.up ha hb ht hf hp
      exact befF_asym h f _ _ m1 m2 h3 h4 h1 h2
theorem befF_trans {T : List Ti} {l : List Nt} (h : LightN T l) : ∀ (f : Nat) (a b c : Nt), a ∈ l → b ∈ l → c ∈ l → a.tier = b.tier → b.tier = c.tier → a.tier < (f : Int) → befF T l f a b = true → befF T l f b c = true → befF T l f a c = true
  | 0, a, b, c, ha, _, _, _, _, hf, _, _ => by have := (h.tier a ha).1; omega
  | f + 1, a, b, c, ha, hb, hc, ht, ht2, hf, h1, h2 => by
    unfold befF at h1 h2 ⊢
    by_cases hp : a.parent = b.parent
    · rw [if_pos hp, decide_eq_true_eq] at h1
      by_cases hq : b.parent = c.parent
      · rw [if_pos hq, decide_eq_true_eq] at h2
        rw [if_pos (hp.trans hq), decide_eq_true_eq]
        omega
      · rw [if_neg hq] at h2
        rw [if_neg fun e => hq (hp.symm.trans e)]
        rwa [show parN l a = parN l b by unfold parN; rw [hp]]
    · rw [if_neg hp] at h1
      obtain ⟨m1, m2, h3, h4, n1, n2⟩ := h.up ha hb ht hf hp
      by_cases hq : b.parent = c.parent
      · rw [if_neg fun e => hp (e.trans hq.symm)]
        rwa [show parN l c = parN l b by unfold parN; rw [hq]]
      · rw [if_neg hq] at h2
        obtain ⟨_, m3, h5, _, _, n3⟩ := h.up (f := f) hb hc ht2 (by omega) hq
        by_cases hr : a.parent = c.parent
        · exfalso
          rw [show parN l c = parN l a by unfold parN; rw [hr]] at h2
          exact befF_asym h f _ _ m1 m2 h3 h4 h1 h2
        · rw [if_neg hr]
          exact befF_trans h f _ _ _ m1 m2 m3 h3 h5 h4 h1 h2
/-- From the right, past all that the note is ahead of. -/
def posB (B : Nt → Nt → Bool) (x : Nt) (acc : List Nt) : Nat → Nat
  | 0 => 0
  | k + 1 => if B x (acc.getD k nt0) = true then posB B x acc k else k + 1
def insB (B : Nt → Nt → Bool) (x : Nt) (acc : List Nt) : List Nt := acc.take (posB B x acc acc.length) ++ x :: acc.drop (posB B x acc acc.length)
def befT (T : List Ti) (l : List Nt) : Nt → Nt → Bool := fun a b => befF T l (a.tier.toNat + 1) a b
/-- The notes of a tier among the first k, in their order. -/
def ofK (T : List Ti) (l : List Nt) (tier : Int) : Nat → List Nt
  | 0 => []
  | k + 1 => match l[k]? with
    | none => ofK T l tier k
    | some x => if x.tier = tier then insB (befT T l) x (ofK T l tier k) else ofK T l tier k
def ofL (T : List Ti) (l : List Nt) (tier : Int) : List Int := (ofK T l tier l.length).map Nt.nid
theorem ofK_some {T : List Ti} {l : List Nt} {tier : Int} {k : Nat} {x : Nt} (hx : l[k]? = some x) : ofK T l tier (k + 1) = if x.tier = tier then insB (befT T l) x (ofK T l tier k) else ofK T l tier k := by
  show (match l[k]? with | none => _ | some x => _) = _
  rw [hx]
theorem posB_spec {B : Nt → Nt → Bool} {x : Nt} {acc : List Nt} : ∀ k, posB B x acc k ≤ k ∧ (∀ j, posB B x acc k ≤ j → j < k → B x (acc.getD j nt0) = true) ∧ (0 < posB B x acc k → B x (acc.getD (posB B x acc k - 1) nt0) = false)
  | 0 => ⟨Nat.le_refl _, fun j _ h => by omega, fun h => by simp [posB] at h⟩
  | k + 1 => by
    obtain ⟨h1, h2, h3⟩ := posB_spec (B := B) (x := x) (acc := acc) k
    unfold posB
    by_cases hb : B x (acc.getD k nt0) = true
    · rw [if_pos hb]
      refine ⟨by omega, fun j hj hjk => ?_, h3⟩
      by_cases e : j = k
      · subst e; exact hb
      · exact h2 j hj (by omega)
    · rw [if_neg hb]
      refine ⟨Nat.le_refl _, fun j hj hjk => by omega, fun _ => ?_⟩
      rw [Nat.add_sub_cancel]
      simpa using hb
theorem posB_of {B : Nt → Nt → Bool} {x : Nt} {acc : List Nt} {a : Nat} : ∀ n, a ≤ n → (∀ j, a ≤ j → j < n → B x (acc.getD j nt0) = true) → (a = 0 ∨ B x (acc.getD (a - 1) nt0) = false) → posB B x acc n = a
  | 0, h, _, _ => by show 0 = a; omega
  | n + 1, h, h1, h2 => by
    unfold posB
    by_cases e : a = n + 1
    · subst e
      rcases h2 with h2 | h2
      · omega
      · rw [Nat.add_sub_cancel] at h2
        rw [if_neg (by rw [h2]; simp)]
    · rw [if_pos (h1 n (by omega) (by omega))]
      exact posB_of n (by omega) (fun j hj hjn => h1 j hj (by omega)) h2
theorem insB_perm (B : Nt → Nt → Bool) (x : Nt) (acc : List Nt) : (insB B x acc).Perm (x :: acc) := by
  unfold insB
  refine List.Perm.trans List.perm_middle ?_
  rw [List.take_append_drop]
theorem ofK_perm {T : List Ti} {l : List Nt} {tier : Int} : ∀ k, k ≤ l.length → (ofK T l tier k).Perm ((l.take k).filter fun x => decide (x.tier = tier))
  | 0, _ => by simp [ofK]
  | k + 1, h => by
    have hx : l[k]? = some l[k] := List.getElem?_eq_getElem (by omega)
    have ih := ofK_perm (T := T) (l := l) (tier := tier) k (by omega)
    rw [ofK_some hx, take_at2 hx, List.filter_append, List.filter_cons]
    by_cases e : l[k].tier = tier
    · rw [if_pos e, if_pos (by simpa using e)]
      exact ((insB_perm _ _ _).trans (ih.cons _)).trans (List.perm_append_singleton _ _).symm
    · rw [if_neg e, if_neg (by simpa using e)]
      simpa using ih
theorem ofK_mem {T : List Ti} {l : List Nt} {tier : Int} {k : Nat} {x : Nt} (hk : k ≤ l.length) (h : x ∈ ofK T l tier k) : x ∈ l.take k ∧ x.tier = tier := by
  have := (ofK_perm k hk).mem_iff.1 h
  rw [List.mem_filter] at this
  exact ⟨this.1, by simpa using this.2⟩
theorem ofK_sorted {T : List Ti} {l : List Nt} {tier : Int} (hL : LightN T l) : ∀ k, k ≤ l.length → (ofK T l tier k).Pairwise fun a b => befT T l a b = true
  | 0, _ => List.Pairwise.nil
  | k + 1, h => by
    have hkl : k < l.length := by omega
    have hx : l[k]? = some l[k] := List.getElem?_eq_getElem hkl
    have ih := ofK_sorted (tier := tier) hL k (by omega)
    rw [ofK_some hx]
    by_cases e : l[k].tier = tier
    · rw [if_pos e]
      obtain ⟨h1, h2, h3⟩ := posB_spec (B := befT T l) (x := l[k]) (acc := ofK T l tier k) (ofK T l tier k).length
      have hxm : l[k] ∈ l := List.getElem_mem _
      have hmem : ∀ y ∈ ofK T l tier k, y ∈ l ∧ y.tier = l[k].tier ∧ l[k] ≠ y := fun y hy => by
        obtain ⟨g1, g2⟩ := ofK_mem (by omega) hy
        refine ⟨List.mem_of_mem_take g1, by rw [g2, e], fun e2 => ?_⟩
        obtain ⟨j, hj⟩ := List.getElem?_of_mem g1
        rw [List.getElem?_take] at hj
        split at hj
        · rename_i hjk
          obtain ⟨hjl, hjy⟩ := List.getElem?_eq_some_iff.1 hj
          have := List.pairwise_iff_getElem.1 hL.ids j k hjl hkl hjk
          rw [hjy, e2] at this
          omega
        · cases hj
      have hlt : l[k].tier < ((l[k].tier.toNat + 1 : Nat) : Int) := by omega
      unfold insB
      obtain ⟨p, hp⟩ : ∃ p, posB (befT T l) l[k] (ofK T l tier k) (ofK T l tier k).length = p := ⟨_, rfl⟩
      rw [hp] at h1 h2 h3 ⊢
      obtain ⟨acc, hacc⟩ : ∃ acc, ofK T l tier k = acc := ⟨_, rfl⟩
      rw [hacc] at ih h1 h2 h3 hmem ⊢
      have ih0 := ih
      rw [← List.take_append_drop p acc, List.pairwise_append] at ih
      have hleft : ∀ y ∈ acc.take p, befT T l y l[k] = true := fun y hy => by
        have hp0 : 0 < p := by
          rcases Nat.eq_zero_or_pos p with e0 | e0
          · subst e0; simp at hy
          · exact e0
        have hpl : p - 1 < acc.length := by omega
        obtain ⟨m1, m2, m3⟩ := hmem _ (List.getElem_mem hpl)
        have hb := h3 hp0
        rw [List.getD, List.getElem?_eq_getElem hpl] at hb
        have hlast : befT T l acc[p - 1] l[k] = true := by
          unfold befT at hb ⊢
          rw [m2]
          rcases befF_conn hL _ _ _ hxm m1 m2.symm hlt m3 with g | g
          · rw [show befF T l (l[k].tier.toNat + 1) l[k] acc[p - 1] = false from hb] at g; cases g
          · exact g
        obtain ⟨j, hj⟩ := List.getElem?_of_mem hy
        rw [List.getElem?_take] at hj
        split at hj
        · rename_i hjp
          obtain ⟨hjl, hjy⟩ := List.getElem?_eq_some_iff.1 hj
          by_cases ej : j = p - 1
          · subst ej; rw [← hjy]; exact hlast
          · have g := List.pairwise_iff_getElem.1 ih0 j (p - 1) hjl hpl (by omega)
            rw [hjy] at g
            obtain ⟨y1, y2, _⟩ := hmem y (by rw [← hjy]; exact List.getElem_mem _)
            unfold befT at g hlast ⊢
            rw [y2] at g ⊢
            rw [m2] at hlast
            exact befF_trans hL _ _ _ _ y1 m1 hxm (by rw [y2, m2]) m2 (by omega) g hlast
        · cases hj
      have hright : ∀ y ∈ acc.drop p, befT T l l[k] y = true := fun y hy => by
        obtain ⟨j, hj⟩ := List.getElem?_of_mem hy
        rw [List.getElem?_drop] at hj
        obtain ⟨hjl, hjy⟩ := List.getElem?_eq_some_iff.1 hj
        have := h2 (p + j) (by omega) hjl
        rw [List.getD, hj] at this
        exact this
      rw [List.pairwise_append]
      refine ⟨ih.1, List.pairwise_cons.2 ⟨hright, ih.2.1⟩, fun y hy z hz => ?_⟩
      rcases List.mem_cons.1 hz with rfl | hz
      · exact hleft y hy
      · exact ih.2.2 y hy z hz
    · rw [if_neg e]; exact ih
theorem compareInt_zero {a b : Int} (h : Lib.compareInt a b = 0) : a = b := by
  unfold Lib.compareInt at h
  split at h
  · cases h
  · split at h
    · cases h
    · omega
theorem ordN_zero {a b : Nt} (h : ordN a b = 0) : a.parent = b.parent ∧ a.at1 = b.at1 ∧ a.rank = b.rank := by
  unfold ordN at h
  rw [orI_cons, orI_cons, orI_cons] at h
  by_cases h1 : Lib.compareInt a.parent b.parent = 0
  · rw [if_pos h1] at h
    by_cases h2 : Lib.compareInt a.at1 b.at1 = 0
    · rw [if_pos h2] at h
      by_cases h3 : Lib.compareInt a.rank b.rank = 0
      · exact ⟨compareInt_zero h1, compareInt_zero h2, compareInt_zero h3⟩
      · rw [if_neg h3] at h; exact absurd h h3
    · rw [if_neg h2] at h; exact absurd h h2
  · rw [if_neg h1] at h; exact absurd h h1
theorem ordN_le {T : List Ti} {l : List Nt} (hL : LightN T l) {a b : Nt} (ha : a ∈ l) (hb : b ∈ l) (ht : a.tier = b.tier) (hp : a.parent = b.parent) (h : befT T l a b = true) : ordN a b ≤ 0 := by
  unfold befT befF at h
  rw [if_pos hp, decide_eq_true_eq] at h
  have o1 := hL.own a ha
  have o2 := hL.own b hb
  unfold keyT at h
  rw [← ht] at h o2
  unfold ordN
  rw [orI_cons, orI_cons, orI_cons, show Lib.compareInt a.parent b.parent = 0 by rw [hp]; unfold Lib.compareInt; simp, if_pos rfl]
  by_cases hk : timedK (tierT T a.tier).kind = true
  · rw [if_pos hk] at o1 o2
    rw [if_pos hk, if_pos hk] at h
    rw [show Lib.compareInt a.at1 b.at1 = -1 by unfold Lib.compareInt; rw [if_pos h], if_neg (by decide)]
    decide
  · rw [if_neg hk] at o1 o2
    rw [if_neg hk, if_neg hk] at h
    rw [show Lib.compareInt a.at1 b.at1 = 0 by rw [o1, o2]; rfl, if_pos rfl, show Lib.compareInt a.rank b.rank = -1 by unfold Lib.compareInt; rw [if_pos h], if_neg (by decide)]
    decide
/-- The notes of a parent, as the reference orders them, are those of the program. -/
theorem ofK_sibs {T : List Ti} {l : List Nt} (hL : LightN T l) (id tier : Int) (ht : 0 ≤ tier ∧ tier < (T.length : Int)) : (ofK T l tier l.length).filter (fun x => decide (x.parent = id)) = sortN (sibs T.length l id tier) := by
  have hst := sortN_stable (sibs T.length l id tier) _ (Nat.le_refl _)
  rw [List.take_length] at hst
  have hperm : ((ofK T l tier l.length).filter fun x => decide (x.parent = id)).Perm (sibs T.length l id tier) := by
    have h1 := (ofK_perm (T := T) (l := l) (tier := tier) l.length (Nat.le_refl _)).filter fun x => decide (x.parent = id)
    rw [List.take_length, List.filter_filter] at h1
    refine h1.trans ?_
    unfold sibs
    rw [show (fun n : Nt => decide (n.tier = tier ∧ n.parent = id ∧ 0 ≤ tier ∧ tier < (T.length : Int))) = fun a : Nt => decide (a.parent = id) && decide (a.tier = tier) from funext fun n => by
      by_cases e1 : n.parent = id <;> by_cases e2 : n.tier = tier <;> simp [e1, e2, ht.1, ht.2]]
  have hmem : ∀ x, x ∈ sibs T.length l id tier → x ∈ l ∧ x.tier = tier ∧ x.parent = id := fun x hx => by
    unfold sibs at hx
    rw [List.mem_filter, decide_eq_true_eq] at hx
    exact ⟨hx.1, hx.2.1, hx.2.2.1⟩
  refine List.Perm.eq_of_pairwise (le := fun a b => ordN a b ≤ 0) (fun a b ha hb h1 h2 => ?_) ?_ hst.sorted (hperm.trans hst.perm.symm)
  · obtain ⟨a1, a2, a3⟩ := hmem a (hperm.mem_iff.1 ha)
    obtain ⟨b1, b2, b3⟩ := hmem b (hst.perm.mem_iff.1 hb)
    have h3 := ordN_is.anti a b
    obtain ⟨e1, e2, e3⟩ := ordN_zero (a := a) (b := b) (by omega)
    refine hL.sib a a1 b b1 (by rw [a2, b2]) (by rw [a3, b3]) ?_
    unfold keyT
    rw [a2, b2, e2, e3]
  · have h1 := (ofK_sorted (tier := tier) hL l.length (Nat.le_refl _)).filter fun x => decide (x.parent = id)
    refine List.Pairwise.imp_of_mem ?_ h1
    intro a b ha hb h2
    obtain ⟨a1, a2, a3⟩ := hmem a (hperm.mem_iff.1 ha)
    obtain ⟨b1, b2, b3⟩ := hmem b (hperm.mem_iff.1 hb)
    exact ordN_le hL a1 b1 (by rw [a2, b2]) (by rw [a3, b3]) h2
/-- What the reference finds as neighbors of a note. -/
def nearL (T : List Ti) (l : List Nt) (x : Nt) : List Int := ((ofL T l x.tier).filter fun id => decide (((getN l id).getD nt0).parent = x.parent))
theorem nearL_kids {T : List Ti} {l : List Nt} (hL : LightN T l) {x : Nt} (hx : x ∈ l) : nearL T l x = kidsL T.length l x.parent x.tier := by
  unfold nearL kidsL ofL
  rw [← ofK_sibs hL x.parent x.tier (hL.tier x hx), List.filter_map]
  congr 1
  refine List.filter_congr fun y hy => ?_
  have h1 := (ofK_mem (Nat.le_refl _) hy).1
  rw [List.take_length] at h1
  show decide (((getN l y.nid).getD nt0).parent = x.parent) = _
  rw [hL.get h1]
  rfl
end Go.Proofs.YtdpllfgnppeneaaGreatDoor
