/-
  PLAIN LAW: one insertion from the right, behind all that are not greater, is a step of the stable sort. No program in sight.
-/
import Derived.Test.YtacfeabdeaikhaaDoorPlainStable
set_option linter.unusedVariables false
namespace Go.Proofs.YtacfeabdeaikhaaDoor.Srt
open Go.Proofs.YtacfeabdeaikhaaDoor.Col
variable {α : Type} {c : α → α → Int}

theorem stable_nil : StableOf c ([] : List α) [] := ⟨[], by simp, List.Pairwise.nil, rfl⟩
theorem stable_insert (hc : IsCmp c) {l : List α} {k at_ : Nat} {x : α} {ys : List α} (h : StableOf c (l.take k) ys) (hx : l[k]? = some x) (hat : at_ ≤ ys.length)
    (h1 : ∀ y, 0 < at_ → ys[at_ - 1]? = some y → 0 ≤ c x y) (h2 : ∀ j y, at_ ≤ j → ys[j]? = some y → c x y < 0) : StableOf c (l.take (k + 1)) (ys.take at_ ++ x :: ys.drop at_) := by
  obtain ⟨p, p1, p2, rfl⟩ := h
  have hk : k < l.length := (List.getElem?_eq_some_iff.1 hx).1
  have hxk : l[k] = x := (List.getElem?_eq_some_iff.1 hx).2
  rw [List.length_map] at hat
  have htag : ∀ q, q ∈ p → q.2 < k := fun q hq => by
    have := p1.mem_iff.1 hq
    have := (List.mem_zipIdx_iff_getElem?.1 this)
    have h3 := (List.getElem?_eq_some_iff.1 this).1
    rw [List.length_take] at h3
    omega
  refine ⟨p.take at_ ++ (x, k) :: p.drop at_, ?_, ?_, ?_⟩
  · have e : (l.take (k + 1)).zipIdx = (l.take k).zipIdx ++ [(x, k)] := by
      rw [List.take_succ_eq_append_getElem hk, List.zipIdx_append, hxk]
      simp [Nat.min_eq_left (Nat.le_of_lt hk)]
    rw [e]
    refine List.Perm.trans List.perm_middle ?_
    rw [List.take_append_drop]
    exact (List.perm_append_singleton (x, k) p).symm.trans (p1.append_right _)
  · have hp := p2
    rw [← List.take_append_drop at_ p, List.pairwise_append] at hp
    rw [List.pairwise_append]
    have hleft : ∀ q, q ∈ p.take at_ → c q.1 x ≤ 0 := by
      intro q hq
      have h0 : 0 < at_ := by
        rcases Nat.eq_zero_or_pos at_ with e | e
        · subst e; simp at hq
        · exact e
      have hl : at_ - 1 < p.length := by omega
      have hy := h1 (p[at_ - 1].1) h0 (by rw [List.getElem?_map, List.getElem?_eq_getElem hl]; rfl)
      have hy' : c p[at_ - 1].1 x ≤ 0 := by
        have := hc.anti x p[at_ - 1].1
        omega
      obtain ⟨j, hj⟩ := List.getElem?_of_mem hq
      rw [List.getElem?_take] at hj
      split at hj
      · rename_i hja
        obtain ⟨hjl, rfl⟩ := List.getElem?_eq_some_iff.1 hj
        by_cases e : j = at_ - 1
        · subst e; exact hy'
        · have h3 := List.pairwise_iff_getElem.1 p2 j (at_ - 1) hjl hl (by omega)
          have h4 : c p[j].1 p[at_ - 1].1 ≤ 0 := by unfold lexLt at h3; omega
          have := hc.trans _ _ _ h4 hy'
          omega
      · cases hj
    have hright : ∀ q, q ∈ p.drop at_ → c x q.1 < 0 := by
      intro q hq
      obtain ⟨j, hj⟩ := List.getElem?_of_mem hq
      rw [List.getElem?_drop] at hj
      exact h2 (at_ + j) q.1 (by omega) (by rw [List.getElem?_map, hj]; rfl)
    refine ⟨hp.1, List.pairwise_cons.2 ⟨fun q hq => .inl (hright q hq), hp.2.1⟩, ?_⟩
    intro q hq r hr
    rcases List.mem_cons.1 hr with rfl | hr
    · have h3 := hleft q hq
      have h4 := htag q (List.mem_of_mem_take hq)
      unfold lexLt
      simp only
      omega
    · exact hp.2.2 q hq r hr
  · simp [List.map_append, List.map_take, List.map_drop]
end Go.Proofs.YtacfeabdeaikhaaDoor.Srt
