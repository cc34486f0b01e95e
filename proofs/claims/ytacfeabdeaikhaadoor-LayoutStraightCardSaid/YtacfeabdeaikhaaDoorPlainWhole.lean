/-
  PLAIN LAW: how the clusters of a list of points look: the first scalar of a later one is no mark, all others are marks.
-/
import Derived.Test.YtacfeabdeaikhaaDoorPlainClus
import Derived.Test.YtacfeabdeaikhaaDoorPlainBack
namespace Go.Proofs.YtacfeabdeaikhaaDoor
open Ru
set_option linter.unusedVariables false

theorem clus_heads (l : List Nat) : Fresh l → ∀ c ∈ clus l, ∃ p ms, c = p :: ms ∧ mk p = false ∧ ∀ m ∈ ms, mk m = true :=
  seg_ind (P := fun l => Fresh l → ∀ c ∈ clus l, ∃ p ms, c = p :: ms ∧ mk p = false ∧ ∀ m ∈ ms, mk m = true) (fun _ c hc => by cases hc) (fun p ms rest hm hr ih hf c hc => by
    rw [clus_seg p ms rest hm hr] at hc
    rcases List.mem_cons.1 hc with rfl | h
    · exact ⟨p, ms, rfl, hf p (ms ++ rest) rfl, hm⟩
    · exact ih hr c h) l
theorem clus_later {l : List Nat} {i : Nat} {c : List Nat} (h : (clus l)[i]? = some c) (hi : 0 < i) : ∃ p ms, c = p :: ms ∧ mk p = false ∧ ∀ m ∈ ms, mk m = true := by
  by_cases hl : l = []
  · subst hl
    simp [clus] at h
  · obtain ⟨p, ms, rest, rfl, hm, hr⟩ := segs hl
    rw [clus_seg p ms rest hm hr] at h
    obtain ⟨j, rfl⟩ : ∃ j, i = j + 1 := ⟨i - 1, by omega⟩
    rw [List.getElem?_cons_succ] at h
    exact clus_heads rest hr c (List.mem_of_getElem? h)
theorem clus_any_at {l : List Nat} {i : Nat} {c : List Nat} (h : (clus l)[i]? = some c) : ∃ p ms, c = p :: ms ∧ ∀ m ∈ ms, mk m = true := clus_is l c (List.mem_of_getElem? h)
theorem clus_sc {l : List Nat} {i : Nat} {c : List Nat} (hs : Sc l) (h : (clus l)[i]? = some c) : Sc c := fun p hp => hs p (by
  rw [← clus_flatten l]
  exact List.mem_flatten.2 ⟨c, List.mem_of_getElem? h, hp⟩)
theorem ords_clus_len (l : List Nat) : (clus (ords l)).length = (clus l).length := by rw [clus_ords, List.length_map]
end Go.Proofs.YtacfeabdeaikhaaDoor
