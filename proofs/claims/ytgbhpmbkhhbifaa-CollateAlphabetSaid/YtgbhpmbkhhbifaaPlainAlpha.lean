/-
  PLAIN LAW: the variants of a right alphabet read as themselves, and are in the order of the letters. No program in sight.
-/
import Derived.Test.YtgbhpmbkhhbifaaPlainHeads
set_option linter.unusedVariables false
set_option linter.unusedSimpArgs false
namespace Go.Proofs.Ytgbhpmbkhhbifaa
open Col
theorem letters_self {S : List (ByteArray × Int)} {nm : ByteArray} {U : List (ByteArray × List Int)} {L : List (List ByteArray)} (h : rightB S nm U L = true) {i q : Nat} (hi : i < L.length) (hq : q < (L.getD i []).length) :
    letters L (vari L i q).data.toList = [(i, q, true)] := by
  have h1 := first_self h hi hq
  have h2 := ((right_letters h i hi).2 q hq).1
  have hn : (vari L i q).data.toList ≠ [] := fun e => by rw [e] at h2; simp at h2
  rw [letters_cons L _ hn, take1_true h1]
  show (i, q, true) :: letters L (List.drop (vari L i q).data.toList.length (vari L i q).data.toList) = _
  rw [List.drop_length, letters_nil]
theorem vari_cmp {S : List (ByteArray × Int)} {nm : ByteArray} {U : List (ByteArray × List Int)} {L : List (List ByteArray)} (h : rightB S nm U L = true) {i q i' q' : Nat} (hi : i < L.length) (hq : q < (L.getD i []).length)
    (hi' : i' < L.length) (hq' : q' < (L.getD i' []).length) (hlt : i' < i ∨ (i' = i ∧ q' < q)) : cmpS L (vari L i' q').data.toList (vari L i q).data.toList = -1 := by
  have e1 := letters_self h hi hq
  have e2 := letters_self h hi' hq'
  unfold cmpS primI secI
  rw [e1, e2]
  simp only [List.map_cons, List.map_nil, cmpI]
  unfold or2 cmpN
  rcases hlt with h1 | ⟨rfl, h1⟩
  · rw [if_pos (by omega : (i' : Int) < i)]
    simp
  · rw [if_neg (by omega : ¬ (i' : Int) < i'), if_neg (by omega : ¬ (i' : Int) < i'), if_pos (by omega : (q' : Int) < q)]
    simp
/-- x is a variant ahead of variant k of letter i. -/
def Ahead (L : List (List ByteArray)) (i k : Nat) (x : ByteArray) : Prop := ∃ i' q', i' < L.length ∧ q' < (L.getD i' []).length ∧ x = vari L i' q' ∧ (i' < i ∨ (i' = i ∧ q' < k))
theorem Ahead.row {L : List (List ByteArray)} {i k : Nat} {x : ByteArray} (h : Ahead L i k x) : Ahead L (i + 1) 0 x := by
  obtain ⟨i', q', h1, h2, h3, h4⟩ := h
  exact ⟨i', q', h1, h2, h3, .inl (by omega)⟩
theorem Ahead.cmp {S : List (ByteArray × Int)} {nm : ByteArray} {U : List (ByteArray × List Int)} {L : List (List ByteArray)} (h : rightB S nm U L = true) {i k : Nat} {x : ByteArray} (ha : Ahead L i k x) (hi : i < L.length) (hq : k < (L.getD i []).length) :
    cmpS L x.data.toList (vari L i k).data.toList = -1 := by
  obtain ⟨i', q', h1, h2, rfl, h4⟩ := ha
  exact vari_cmp h hi hq h1 h2 h4
theorem right_small {S : List (ByteArray × Int)} {nm : ByteArray} {U : List (ByteArray × List Int)} {L : List (List ByteArray)} (h : rightB S nm U L = true) :
    L.length ≤ 110 ∧ ∀ i, i < L.length → (L.getD i []).length ≤ 20 ∧ ∀ k, k < (L.getD i []).length → (vari L i k).size ≤ 100 := by
  unfold rightB at h
  rw [Bool.and_eq_true] at h
  have h1 := h.1
  unfold smallB at h1
  simp only [Bool.and_eq_true] at h1
  obtain ⟨⟨_, _, hl, _⟩, _, _, ha⟩ := h1
  refine ⟨of_decide_eq_true hl, fun i hi => ?_⟩
  have hx := Ok.allTo_iff.1 ha i hi
  rw [Bool.and_eq_true] at hx
  exact ⟨of_decide_eq_true hx.1, fun k hk => of_decide_eq_true (Ok.allTo_iff.1 hx.2 k hk)⟩
theorem Ahead.size {S : List (ByteArray × Int)} {nm : ByteArray} {U : List (ByteArray × List Int)} {L : List (List ByteArray)} (h : rightB S nm U L = true) {i k : Nat} {x : ByteArray} (ha : Ahead L i k x) : x.size ≤ 100 := by
  obtain ⟨i', q', h1, h2, rfl, _⟩ := ha
  exact ((right_small h).2 i' h1).2 q' h2
end Go.Proofs.Ytgbhpmbkhhbifaa
