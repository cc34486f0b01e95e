import Derived.Test.YtdpllfgnppeneaaGreatDoorLabel
namespace Go.Proofs.YtdpllfgnppeneaaGreatDoor
open Go.RowKit
set_option linter.unusedVariables false
set_option linter.unusedSimpArgs false

/-- A slice of segments reads as S. -/
def SegsR (w : World) (B : Nat) (A : Option Addr) (n : Nat) (S : List (ByteArray × Int)) : Prop :=
  S.length = n ∧ (0 < n → ∃ ad, A = some ad ∧ ad.block < B ∧ ∀ k x, S[k]? = some x → w.cell? (ad.add (k * 2)) = some (.string x.1) ∧ w.cell? (ad.add (k * 2 + 1)) = some (.int .i64 x.2))
theorem SegsR.below {w w' : World} {B : Nat} {A : Option Addr} {n : Nat} {S : List (ByteArray × Int)} (h : SegsR w B A n S) (hb : Below B w w') : SegsR w' B A n S :=
  ⟨h.1, fun hn => by
    obtain ⟨ad, e, hlt, hc⟩ := h.2 hn
    refine ⟨ad, e, hlt, fun k x hx => ?_⟩
    obtain ⟨h1, h2⟩ := hc k x hx
    exact ⟨(hb.cell (by rw [block_of_add]; exact hlt)).trans h1, (hb.cell (by rw [block_of_add]; exact hlt)).trans h2⟩⟩
theorem SegsR.more {w : World} {B B' : Nat} {A : Option Addr} {n : Nat} {S : List (ByteArray × Int)} (h : SegsR w B A n S) (hB : B ≤ B') : SegsR w B' A n S :=
  ⟨h.1, fun hn => by
    obtain ⟨ad, e, hlt, hc⟩ := h.2 hn
    exact ⟨ad, e, by omega, hc⟩⟩
def segName (S : List (ByteArray × Int)) (i : Nat) : ByteArray := (S.getD i (⟨#[]⟩, 0)).1
def segFeat (S : List (ByteArray × Int)) (i : Nat) : Int := (S.getD i (⟨#[]⟩, 0)).2
theorem field_at {w : World} {p : Addr} {i : Nat} {v : Value} (hi : 0 < i) (h : w.cell? (p.add i) = some v) : w.cell? ⟨p.block, p.off + i, none⟩ = some v := by
  unfold Addr.add at h
  rw [if_neg (by omega)] at h
  exact h
theorem SegsR.at_ {w : World} {B : Nat} {A : Option Addr} {n k : Nat} {S : List (ByteArray × Int)} (h : SegsR w B A n S) (hk : k < n) :
    ∃ ad, A = some ad ∧ ad.block < B ∧ w.cell? (ad.add (k * 2)) = some (.string (segName S k)) ∧ w.cell? ⟨(ad.add (k * 2)).block, (ad.add (k * 2)).off + 1, none⟩ = some (.int .i64 (segFeat S k)) ∧ w.cell? (ad.add (k * 2 + 1)) = some (.int .i64 (segFeat S k)) := by
  obtain ⟨ad, e, hlt, hc⟩ := h.2 (by omega)
  have hl : k < S.length := by rw [h.1]; exact hk
  obtain ⟨h1, h2⟩ := hc k S[k] (List.getElem?_eq_getElem hl)
  refine ⟨ad, e, hlt, ?_, ?_, ?_⟩
  · rw [h1]; simp [segName, List.getD, hl]
  · refine field_at (by omega) ?_
    rw [add_of_add, h2]; simp [segFeat, List.getD, hl]
  · rw [h2]; simp [segFeat, List.getD, hl]
/-- One segment is right. -/
def okSeg (S : List (ByteArray × Int)) (i : Nat) : Bool :=
  Ok.labelB (segName S i).data.toList && (Ok.allTo (fun k => !decide (segName S k = segName S i)) i && (decide (0 ≤ segFeat S i) && decide (segFeat S i < 65536)))
def ok16 (S : List (ByteArray × Int)) : Bool := decide (S.length ≤ 60) && Ok.allTo (okSeg S) S.length
/-- An error number: 0 if it is right. -/
def CkPost (w : World) (ok : Bool) (e : Ending) (w' : World) : Prop := ∃ r : Int, e = .returned (.int .i64 r) ∧ (r = 0 ↔ ok = true) ∧ Below w.heap.size w w'
theorem ckNo {w w' : World} {ok : Bool} {r : Int} (hr : r ≠ 0) (ho : ok = false) (hb : Below w.heap.size w w') : CkPost w ok (.returned (.int .i64 r)) w' := ⟨r, rfl, ⟨fun h => absurd h hr, fun h => by rw [ho] at h; cases h⟩, hb⟩
theorem ckYes {w w' : World} {ok : Bool} (ho : ok = true) (hb : Below w.heap.size w w') : CkPost w ok (.returned (.int .i64 0)) w' := ⟨0, rfl, ⟨fun _ => ho, fun _ => rfl⟩, hb⟩
theorem str_ne {x s : ByteArray} (h : x ≠ s) : (x.toList == s.toList) = false := by
  rw [Lib.toList_data, Lib.toList_data]
  refine beq_eq_false_iff_ne.2 fun e => h ?_
  cases x with | mk d => cases s with | mk e' => cases d with | mk p => cases e' with | mk q => simp at e; rw [e]
theorem str_eq {x s : ByteArray} (h : x = s) : (x.toList == s.toList) = true := by subst h; exact beq_self_eq_true _

end Go.Proofs.YtdpllfgnppeneaaGreatDoor
