/-
  What a document whose checks are all right gives (LightN): plain, but for the names of the checks' facts.
-/
import Derived.Test.YtdpllfgnppeneaaGreatDoorSib
import Derived.Test.YtdpllfgnppeneaaGreatDoorNote12
namespace Go.Proofs.YtdpllfgnppeneaaGreatDoor
open Go.RowKit Ru Lay
attribute [local go_sem ↓] Go.wp_at_zero Go.wp_at_succ
set_option linter.unusedVariables false
set_option linter.unusedSimpArgs false

def SibOk (kd : Int) (s : List Nt) : Prop := (timedK kd = true → NoOver s) ∧ (kd = 3 → Ranked s) ∧ (kd = 4 → s.length ≤ 1)
def TierOk (T : List Ti) (l : List Nt) (tier : Int) : Prop := ∀ x ∈ l, x.tier = tier → SibOk (tierT T tier).kind (sibF l tier x.parent)
/-- What the check of a document gives. -/
structure DocOk (T : List Ti) (l : List Nt) : Prop where
  tiers : ∀ i t, T[i]? = some t → TOk t i
  notes : ∀ i, i < l.length → NOk T l i
  sibs : ∀ t : Nat, t < T.length → TierOk T l (t : Int)
theorem DocOk.ids {T : List Ti} {l : List Nt} (h : DocOk T l) : ∀ (j i : Nat) (x y : Nt), i < j → l[i]? = some x → l[j]? = some y → x.nid < y.nid
  | 0, i, x, y, hij, _, _ => by omega
  | j + 1, i, x, y, hij, hx, hy => by
    have hj := (List.getElem?_eq_some_iff.1 hy).1
    have hz : l[j]? = some l[j] := List.getElem?_eq_getElem (by omega)
    have h1 := (h.notes (j + 1) hj y hy).2.1 l[j] (by omega) (by rw [Nat.add_sub_cancel]; exact hz)
    by_cases e : i = j
    · subst e
      rw [hx] at hz
      cases hz
      exact h1
    · have := DocOk.ids h j i x l[j] (by omega) hx hz
      omega
theorem DocOk.note {T : List Ti} {l : List Nt} (h : DocOk T l) {x : Nt} (hx : x ∈ l) : (0 ≤ x.tier ∧ x.tier < (T.length : Int)) ∧ PlOk T l x := by
  obtain ⟨i, hi⟩ := List.getElem?_of_mem hx
  have := h.notes i (List.getElem?_eq_some_iff.1 hi).1 x hi
  exact this.2.2
theorem DocOk.tok {T : List Ti} {l : List Nt} (h : DocOk T l) {x : Nt} (hx : x ∈ l) : TOk (tierT T x.tier) x.tier.toNat := by
  have h1 := (h.note hx).1
  have h2 : x.tier.toNat < T.length := by omega
  refine h.tiers _ _ ?_
  unfold tierT
  rw [List.getD, List.getElem?_eq_getElem h2]
  rfl
/-- As many notes as ranks: no two of one rank. -/
theorem ranked_inj : ∀ (n : Nat) (f : Nat → Int), (∀ k : Nat, k < n → ∃ i, i < n ∧ f i = (k : Int)) → ∀ i j, i < n → j < n → f i = f j → i = j := by
  intro n f h i j hi hj e
  by_cases hne : i = j
  · exact hne
  exfalso
  have hsub : (List.range n).map (fun k : Nat => (k : Int)) ⊆ ((List.range n).filter fun q => decide (q ≠ j)).map f := by
    intro z hz
    obtain ⟨k, hk, rfl⟩ := List.mem_map.1 hz
    obtain ⟨q, hq, hqk⟩ := h k (List.mem_range.1 hk)
    by_cases eq : q = j
    · subst eq
      exact List.mem_map.2 ⟨i, List.mem_filter.2 ⟨List.mem_range.2 hi, by simpa using hne⟩, by rw [e, hqk]⟩
    · exact List.mem_map.2 ⟨q, List.mem_filter.2 ⟨List.mem_range.2 hq, by simpa using eq⟩, hqk⟩
  have hnd : ((List.range n).map (fun k : Nat => (k : Int))).Nodup := by
    rw [List.nodup_iff_pairwise_ne, List.pairwise_map]
    exact (List.nodup_range).imp fun h1 h2 => h1 (by omega)
  have hle := hnd.length_le_of_subset hsub
  rw [List.length_map, List.length_range, List.length_map] at hle
  have hlt : ((List.range n).filter fun q => decide (q ≠ j)).length < (List.range n).length := by
    refine List.length_filter_lt_length_iff_exists.2 ⟨j, List.mem_range.2 hj, by simp⟩
  rw [List.length_range] at hlt
  omega
theorem DocOk.light {T : List Ti} {l : List Nt} (h : DocOk T l) : LightN T l := by
  refine ⟨List.pairwise_iff_getElem.2 fun i j hi hj hij => h.ids j i _ _ hij (List.getElem?_eq_getElem hi) (List.getElem?_eq_getElem hj), fun x hx => (h.note hx).1, fun x hx => ?_, fun x hx => ?_, fun x hx y hy ht hp hk => ?_⟩
  · rcases (h.note hx).2.1 with h1 | ⟨h1, p, h2, h3⟩
    · exact .inl h1
    · refine .inr ⟨h1, p, h2, h3, ?_⟩
      rcases (h.tok hx).2 with ⟨k0, _⟩ | ⟨_, k1, k2⟩
      · exact absurd k0 h1
      · have := (h.note hx).1
        rw [h3]
        omega
  · obtain ⟨_, _, h2, h3⟩ := (h.note hx).2
    split
    · rename_i hk
      rcases h3 with h3 | h3
      · exact h3
      · rw [h3] at hk; exact absurd hk (by decide)
    · rename_i hk
      exact (h2 (by simpa using hk)).1
  · have htr := (h.note hx).1
    have hso := h.sibs x.tier.toNat (by omega) x hx (by omega)
    rw [show ((x.tier.toNat : Nat) : Int) = x.tier by omega] at hso
    have hxm : x ∈ sibF l x.tier x.parent := List.mem_filter.2 ⟨hx, by simp⟩
    have hym : y ∈ sibF l x.tier x.parent := List.mem_filter.2 ⟨hy, by simp [ht, hp]⟩
    obtain ⟨i, hi⟩ := List.getElem?_of_mem hxm
    obtain ⟨j, hj⟩ := List.getElem?_of_mem hym
    have hil := (List.getElem?_eq_some_iff.1 hi).1
    have hjl := (List.getElem?_eq_some_iff.1 hj).1
    suffices e : i = j by subst e; rw [hi] at hj; exact Option.some.inj hj
    unfold keyT at hk
    rw [← ht] at hk
    by_cases htk : timedK (tierT T x.tier).kind = true
    · rw [if_pos htk, if_pos htk] at hk
      have hno := hso.1 htk
      have hxa := (h.note hx).2.2.1 htk
      have hya := (h.note hy).2.2.1 (by rw [← ht]; exact htk)
      rcases Nat.lt_trichotomy i j with hlt | hlt | hlt
      · exact absurd ⟨by omega, by omega⟩ (hno j i y x hlt hj hi)
      · exact hlt
      · exact absurd ⟨by omega, by omega⟩ (hno i j x y hlt hi hj)
    · rw [if_neg htk, if_neg htk] at hk
      have hkd := (h.tok hx).1
      have h34 : (tierT T x.tier).kind = 3 ∨ (tierT T x.tier).kind = 4 := by
        by_cases e3 : (tierT T x.tier).kind = 3
        · exact .inl e3
        · by_cases e4 : (tierT T x.tier).kind = 4
          · exact .inr e4
          · exfalso
            have : (tierT T x.tier).kind = 0 ∨ (tierT T x.tier).kind = 1 ∨ (tierT T x.tier).kind = 2 := by omega
            apply htk
            unfold timedK
            rcases this with e | e | e <;> rw [e] <;> decide
      rcases h34 with e3 | e4
      · have hrk := hso.2.1 e3
        refine ranked_inj (sibF l x.tier x.parent).length (fun q => ((sibF l x.tier x.parent).getD q nt0).rank) (fun k hk => ?_) i j hil hjl ?_
        · obtain ⟨q, z, hq, hz⟩ := hrk k hk
          exact ⟨q, (List.getElem?_eq_some_iff.1 hq).1, by show ((sibF l x.tier x.parent).getD q nt0).rank = _; rw [List.getD, hq]; exact hz⟩
        · show ((sibF l x.tier x.parent).getD i nt0).rank = ((sibF l x.tier x.parent).getD j nt0).rank
          rw [List.getD, hi, List.getD, hj]
          exact hk
      · have := hso.2.2 e4
        omega
end Go.Proofs.YtdpllfgnppeneaaGreatDoor
