import Derived.Test.YtgbhpmbkhhbifaaSort
import Derived.Test.YtgbhpmbkhhbifaaSameS
import Derived.Outline
namespace Go.Proofs.Ytgbhpmbkhhbifaa
open Go.RowKit Col Srt
set_option linter.unusedVariables false
set_option linter.unusedSimpArgs false

/-- The alphabet of the chapter's example. -/
def smp : List (List ByteArray) := [[⟨#[97]⟩], [⟨#[98]⟩], [⟨#[110, 103]⟩, ⟨#[78, 103]⟩], [⟨#[110]⟩]]
theorem smp_sized : SizedL smp := by
  refine ⟨by simp [smp], fun l hl => ?_⟩
  simp only [smp, List.mem_cons, List.not_mem_nil, or_false] at hl
  rcases hl with rfl | rfl | rfl | rfl
  all_goals
    refine ⟨by simp, fun s hs => ?_⟩
    simp only [List.mem_cons, List.not_mem_nil, or_false] at hs
    rcases hs with rfl | rfl <;> decide

/-- A new block that holds these strings. -/
theorem sr_new (w : World) (e : TypeId) (l : List ByteArray) (c : Array Value) (hc : c.toList = l.map .string) : SR (w.alloc (.cells c e)) (w.alloc (.cells c e)).heap.size (some ⟨w.heap.size, 0, none⟩) l.length l := by
  refine ⟨by simp, fun _ => ⟨_, rfl, by simp, fun j u hu => ?_⟩⟩
  have e1 : (⟨w.heap.size, 0, none⟩ : Addr).add j = ⟨w.heap.size, j, none⟩ := by
    unfold Addr.add
    split
    · rename_i h; simp [h]
    · simp
  rw [e1, World.cell?_alloc_at _ _ _ _ rfl]
  rw [← hc] at hu
  simpa using hu
theorem SR.on {w w' : World} {n : Nat} {A : Option Addr} {l : List ByteArray} (h : SR w w.heap.size A n l) (hb : Below w.heap.size w w') : SR w' w'.heap.size A n l := Reads.on h hb

theorem RowsR.more {w : World} {B B' : Nat} {A : Option Addr} {n : Nat} {L : List (List ByteArray)} (h : RowsR w B A n L) (hB : B ≤ B') : RowsR w B' A n L := by
  obtain ⟨xs, hr, hl, hi⟩ := h
  refine ⟨xs, hr.more hB, hl, fun i l hil => ?_⟩
  obtain ⟨A', n', c', hx', hs⟩ := hi i l hil
  exact ⟨A', n', c', hx', Reads.more hs hB⟩
theorem RowsR.on {w w' : World} {n : Nat} {A : Option Addr} {L : List (List ByteArray)} (h : RowsR w w.heap.size A n L) (hb : Below w.heap.size w w') : RowsR w' w'.heap.size A n L := (h.below hb).more hb.size
theorem reads_new (w : World) (e : TypeId) (c : Array Value) : Reads (w.alloc (.cells c e)) (w.alloc (.cells c e)).heap.size 1 (some ⟨w.heap.size, 0, none⟩) c.size c.toList := by
  refine ⟨by simp, fun _ => ⟨_, rfl, by simp, fun j u hu => ?_⟩⟩
  have e1 : (⟨w.heap.size, 0, none⟩ : Addr).add j = ⟨w.heap.size, j, none⟩ := by
    unfold Addr.add
    split
    · rename_i h; simp [h]
    · simp
  rw [e1, World.cell?_alloc_at _ _ _ _ rfl]
  simpa using hu
theorem smp_rows (W : World) (b : Nat) (hb : W.heap.size = b) (e1 e2 e3 e4 e5 : TypeId) :
    RowsR (((((W.alloc (.cells #[.string ⟨#[97]⟩] e1)).alloc (.cells #[.string ⟨#[98]⟩] e2)).alloc (.cells #[.string ⟨#[110, 103]⟩, .string ⟨#[78, 103]⟩] e3)).alloc (.cells #[.string ⟨#[110]⟩] e4)).alloc
      (.cells #[.slice (some ⟨b, 0, none⟩) 1 1, .slice (some ⟨b + 1, 0, none⟩) 1 1, .slice (some ⟨b + 1 + 1, 0, none⟩) 2 2, .slice (some ⟨b + 1 + 1 + 1, 0, none⟩) 1 1] e5)) (b + 5) (some ⟨b + 4, 0, none⟩) 4 smp := by
  subst hb
  have s1 := sr_new W e1 [⟨#[97]⟩] #[.string ⟨#[97]⟩] rfl
  generalize h1 : W.alloc (.cells #[.string ⟨#[97]⟩] e1) = W1 at s1 ⊢
  have z1 : W1.heap.size = W.heap.size + 1 := by rw [← h1]; simp
  have s2 := sr_new W1 e2 [⟨#[98]⟩] #[.string ⟨#[98]⟩] rfl
  have n2 := below_new W1 (.cells #[.string ⟨#[98]⟩] e2)
  generalize h2 : W1.alloc (.cells #[.string ⟨#[98]⟩] e2) = W2 at s2 n2 ⊢
  have z2 : W2.heap.size = W1.heap.size + 1 := by rw [← h2]; simp
  have s3 := sr_new W2 e3 [⟨#[110, 103]⟩, ⟨#[78, 103]⟩] #[.string ⟨#[110, 103]⟩, .string ⟨#[78, 103]⟩] rfl
  have n3 := below_new W2 (.cells #[.string ⟨#[110, 103]⟩, .string ⟨#[78, 103]⟩] e3)
  generalize h3 : W2.alloc (.cells #[.string ⟨#[110, 103]⟩, .string ⟨#[78, 103]⟩] e3) = W3 at s3 n3 ⊢
  have z3 : W3.heap.size = W2.heap.size + 1 := by rw [← h3]; simp
  have s4 := sr_new W3 e4 [⟨#[110]⟩] #[.string ⟨#[110]⟩] rfl
  have n4 := below_new W3 (.cells #[.string ⟨#[110]⟩] e4)
  generalize h4 : W3.alloc (.cells #[.string ⟨#[110]⟩] e4) = W4 at s4 n4 ⊢
  have z4 : W4.heap.size = W3.heap.size + 1 := by rw [← h4]; simp
  have s5 := reads_new W4 e5 #[.slice (some ⟨W.heap.size, 0, none⟩) 1 1, .slice (some ⟨W.heap.size + 1, 0, none⟩) 1 1, .slice (some ⟨W.heap.size + 1 + 1, 0, none⟩) 2 2, .slice (some ⟨W.heap.size + 1 + 1 + 1, 0, none⟩) 1 1]
  have n5 := below_new W4 (.cells #[.slice (some ⟨W.heap.size, 0, none⟩) 1 1, .slice (some ⟨W.heap.size + 1, 0, none⟩) 1 1, .slice (some ⟨W.heap.size + 1 + 1, 0, none⟩) 2 2, .slice (some ⟨W.heap.size + 1 + 1 + 1, 0, none⟩) 1 1] e5)
  generalize h5 : W4.alloc (.cells #[.slice (some ⟨W.heap.size, 0, none⟩) 1 1, .slice (some ⟨W.heap.size + 1, 0, none⟩) 1 1, .slice (some ⟨W.heap.size + 1 + 1, 0, none⟩) 2 2, .slice (some ⟨W.heap.size + 1 + 1 + 1, 0, none⟩) 1 1] e5) = W5 at s5 n5 ⊢
  have z5 : W5.heap.size = W4.heap.size + 1 := by rw [← h5]; simp
  have t1 := (((s1.on n2).on n3).on n4).on n5
  have t2 := ((s2.on n3).on n4).on n5
  have t3 := (s3.on n4).on n5
  have t4 := s4.on n5
  rw [show W4.heap.size = W.heap.size + 4 by omega] at s5
  rw [show W3.heap.size = W.heap.size + 1 + 1 + 1 by omega] at t4
  rw [show W2.heap.size = W.heap.size + 1 + 1 by omega] at t3
  rw [z1] at t2
  rw [show W.heap.size + 5 = W5.heap.size by omega]
  refine ⟨_, s5, rfl, fun i l hl => ?_⟩
  match i, hl with
  | 0, hl => cases hl; exact ⟨_, _, _, rfl, t1⟩
  | 1, hl => cases hl; exact ⟨_, _, _, rfl, t2⟩
  | 2, hl => cases hl; exact ⟨_, _, _, rfl, t3⟩
  | 3, hl => cases hl; exact ⟨_, _, _, rfl, t4⟩

set_option maxHeartbeats 400000 in
theorem sample_any (w : World) : Calls Try.prog 28 #[] w fun e w' => ∃ A, e = .returned (.agg #[.string ⟨#[111]⟩, .slice none 0 0, .slice A 4 4]) ∧ RowsR w' w'.heap.size A 4 smp ∧ Below w.heap.size w w' := by
  go_enter Try.func28, Try.ntmps28
  go_wp2
  refine bodyPost_ret (v := .agg #[.string ⟨#[111]⟩, .slice none 0 0, .slice (some ⟨w.heap.size + 1 + 4, 0, none⟩) 4 4]) (by simp [results, Try.results28, go_sem]) rfl ⟨_, rfl, ?_, ?_⟩
  · refine (smp_rows _ (w.heap.size + 1) (by simp) _ _ _ _ _).more (by simp)
  · refine ((((((Below.refl _ w).alloc (Nat.le_refl _) _).alloc (by simp) _).alloc (by simp; omega) _).alloc (by simp; omega) _).alloc (by simp; omega) _).alloc (by simp; omega) _
end Go.Proofs.Ytgbhpmbkhhbifaa
