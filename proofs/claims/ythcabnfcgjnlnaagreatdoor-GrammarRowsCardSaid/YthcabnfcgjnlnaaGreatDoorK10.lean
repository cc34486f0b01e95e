import Derived.Test.YthcabnfcgjnlnaaGreatDoorK09
import Derived.Deep.MidRow
import Derived.Deep.Upon
/-
  How the program orders notes: tiers.order.
-/
namespace Go.Proofs.YthcabnfcgjnlnaaGreatDoor
open Go.RowKit Ru Lay
attribute [local go_sem ↓] Go.wp_at_zero Go.wp_at_succ
set_option linter.unusedVariables false
set_option linter.unusedSimpArgs false

set_option maxHeartbeats 4000000 in
set_option maxRecDepth 100000 in
theorem ordN_any (a b : Nt) (w : World) : Calls Tryz.prog 91 #[noteV a, noteV b] w fun e w' => e = .returned (.int .i64 (ordN a b)) ∧ Below w.heap.size w w' := by
  unfold noteV
  go_enter Tryz.func91, Tryz.ntmps91
  go_wp2_with fail
  have HBW : Hid (Below w.heap.size w ((w.alloc (.cells #[.int .i64 a.nid, .int .i64 a.tier, .int .i64 a.parent, .int .i64 a.at1, .int .i64 a.at2, .int .i64 a.rank, .string a.text] 58)).alloc (.cells #[.int .i64 b.nid, .int .i64 b.tier, .int .i64 b.parent, .int .i64 b.at1, .int .i64 b.at2, .int .i64 b.rank, .string b.text] 58))) := ((Below.refl _ w).alloc (Nat.le_refl _) _).alloc (by simp) _
  obtain ⟨W0, hW0⟩ : ∃ W0, ((w.alloc (.cells #[.int .i64 a.nid, .int .i64 a.tier, .int .i64 a.parent, .int .i64 a.at1, .int .i64 a.at2, .int .i64 a.rank, .string a.text] 58)).alloc (.cells #[.int .i64 b.nid, .int .i64 b.tier, .int .i64 b.parent, .int .i64 b.at1, .int .i64 b.at2, .int .i64 b.rank, .string b.text] 58)) = W0 := ⟨_, rfl⟩
  have hz0 : W0.heap.size = w.heap.size + 1 + 1 := by rw [← hW0]; simp
  have Haparent : Hid (∀ W, Below W0.heap.size W0 W → W.cell? ⟨w.heap.size, 2, none⟩ = some (.int .i64 a.parent)) := fun W hW => by
    rw [hW.cell (p := ⟨w.heap.size, 2, none⟩) (by show w.heap.size < _; omega)]
    rw [← hW0, World.cell?_alloc_lt _ _ _ (by simp), World.cell?_alloc_at _ _ _ _ rfl]; rfl
  have Haat1 : Hid (∀ W, Below W0.heap.size W0 W → W.cell? ⟨w.heap.size, 3, none⟩ = some (.int .i64 a.at1)) := fun W hW => by
    rw [hW.cell (p := ⟨w.heap.size, 3, none⟩) (by show w.heap.size < _; omega)]
    rw [← hW0, World.cell?_alloc_lt _ _ _ (by simp), World.cell?_alloc_at _ _ _ _ rfl]; rfl
  have Harank : Hid (∀ W, Below W0.heap.size W0 W → W.cell? ⟨w.heap.size, 5, none⟩ = some (.int .i64 a.rank)) := fun W hW => by
    rw [hW.cell (p := ⟨w.heap.size, 5, none⟩) (by show w.heap.size < _; omega)]
    rw [← hW0, World.cell?_alloc_lt _ _ _ (by simp), World.cell?_alloc_at _ _ _ _ rfl]; rfl
  have Hbparent : Hid (∀ W, Below W0.heap.size W0 W → W.cell? ⟨w.heap.size + 1, 2, none⟩ = some (.int .i64 b.parent)) := fun W hW => by
    rw [hW.cell (p := ⟨w.heap.size + 1, 2, none⟩) (by show w.heap.size + 1 < _; omega)]
    rw [← hW0, World.cell?_alloc_at _ _ _ _ (by simp)]; rfl
  have Hbat1 : Hid (∀ W, Below W0.heap.size W0 W → W.cell? ⟨w.heap.size + 1, 3, none⟩ = some (.int .i64 b.at1)) := fun W hW => by
    rw [hW.cell (p := ⟨w.heap.size + 1, 3, none⟩) (by show w.heap.size + 1 < _; omega)]
    rw [← hW0, World.cell?_alloc_at _ _ _ _ (by simp)]; rfl
  have Hbrank : Hid (∀ W, Below W0.heap.size W0 W → W.cell? ⟨w.heap.size + 1, 5, none⟩ = some (.int .i64 b.rank)) := fun W hW => by
    rw [hW.cell (p := ⟨w.heap.size + 1, 5, none⟩) (by show w.heap.size + 1 < _; omega)]
    rw [← hW0, World.cell?_alloc_at _ _ _ _ (by simp)]; rfl
  rw [hW0] at HBW ⊢
  clear hW0
  refine wp_region_told [Told.is (.pointer (some ⟨w.heap.size, 2, none⟩)), Told.is (.int .i64 a.parent), Told.is (.pointer (some ⟨w.heap.size + 1, 2, none⟩)), Told.is (.int .i64 b.parent), Told.is (.int .i64 (Lib.compareInt a.parent b.parent)), Told.is (.pointer (some ⟨w.heap.size, 3, none⟩)), Told.is (.pointer (some ⟨w.heap.size, 3, none⟩)), Told.is (.int .i64 a.at1), Told.is (.pointer (some ⟨w.heap.size + 1, 3, none⟩)), Told.is (.pointer (some ⟨w.heap.size + 1, 3, none⟩)), Told.is (.int .i64 b.at1), Told.is (.int .i64 (Lib.compareInt a.at1 b.at1)), Told.is (.pointer (some ⟨w.heap.size, 5, none⟩)), Told.is (.int .i64 a.rank), Told.is (.pointer (some ⟨w.heap.size + 1, 5, none⟩)), Told.is (.int .i64 b.rank), Told.is (.int .i64 (Lib.compareInt a.rank b.rank)), Told.such (fun v w => ∃ A c, v = .slice A 3 c ∧ IR w w.heap.size A 3 [Lib.compareInt a.parent b.parent, Lib.compareInt a.at1 b.at1, Lib.compareInt a.rank b.rank]) (fun v w w' ⟨A, c, h1, h2⟩ hb => ⟨A, c, h1, IR.on h2 hb⟩), Told.is (.int .i64 (ordN a b)), Told.is (.int .i64 (ordN a b))] (by kernel_rfl) (by kernel_rfl) ?_ ?_
  · refine And.intro (fun w1 vals hB hd K hK => ?_) ?_
    · clear hd
      simp only [putAll, Act.put, List.setIfInBounds_toArray, List.set_cons_zero, List.set_cons_succ] at hK ⊢
      obtain ⟨ve, hve⟩ : ∃ f : Nat → Value, f = vals := ⟨_, rfl⟩
      rw [← hve] at hK  ⊢
      clear hve
      refine gwp_none rfl ?_
      go_simp
      exact hK _ _ rfl (Below.refl _ _)
    refine And.intro (fun w1 vals hB hd K hK => ?_) ?_
    · have e0 : vals 0 = .pointer (some ⟨w.heap.size, 2, none⟩) := told_at (hd 0 rfl) rfl
      clear hd
      simp only [putAll, Act.put, List.setIfInBounds_toArray, List.set_cons_zero, List.set_cons_succ] at hK ⊢
      simp only [e0] at hK ⊢
      obtain ⟨ve, hve⟩ : ∃ f : Nat → Value, f = vals := ⟨_, rfl⟩
      rw [← hve] at hK  ⊢
      clear e0 hve
      refine gwp_none rfl ?_
      have hc := Haparent.out w1 hB
      go_simp
      exact hK _ _ rfl (Below.refl _ _)
    refine And.intro (fun w1 vals hB hd K hK => ?_) ?_
    · clear hd
      simp only [putAll, Act.put, List.setIfInBounds_toArray, List.set_cons_zero, List.set_cons_succ] at hK ⊢
      obtain ⟨ve, hve⟩ : ∃ f : Nat → Value, f = vals := ⟨_, rfl⟩
      rw [← hve] at hK  ⊢
      clear hve
      refine gwp_none rfl ?_
      go_simp
      exact hK _ _ rfl (Below.refl _ _)
    refine And.intro (fun w1 vals hB hd K hK => ?_) ?_
    · have e2 : vals 2 = .pointer (some ⟨w.heap.size + 1, 2, none⟩) := told_at (hd 2 rfl) rfl
      clear hd
      simp only [putAll, Act.put, List.setIfInBounds_toArray, List.set_cons_zero, List.set_cons_succ] at hK ⊢
      simp only [e2] at hK ⊢
      obtain ⟨ve, hve⟩ : ∃ f : Nat → Value, f = vals := ⟨_, rfl⟩
      rw [← hve] at hK  ⊢
      clear e2 hve
      refine gwp_none rfl ?_
      have hc := Hbparent.out w1 hB
      go_simp
      exact hK _ _ rfl (Below.refl _ _)
    refine And.intro (fun w1 vals hB hd K hK => ?_) ?_
    · have e1 : vals 1 = .int .i64 a.parent := told_at (hd 1 rfl) rfl
      have e3 : vals 3 = .int .i64 b.parent := told_at (hd 3 rfl) rfl
      clear hd
      simp only [putAll, Act.put, List.setIfInBounds_toArray, List.set_cons_zero, List.set_cons_succ] at hK ⊢
      simp only [e1, e3] at hK ⊢
      obtain ⟨ve, hve⟩ : ∃ f : Nat → Value, f = vals := ⟨_, rfl⟩
      rw [← hve] at hK  ⊢
      clear e1 e3 hve
      refine gwp_none rfl ?_
      go_simp
      refine (Tryz.cmp_Compare_int a.parent b.parent w1).mono ?_
      rintro e w2 ⟨rfl, rfl⟩
      exact hK _ _ rfl (Below.refl _ _)
    refine And.intro (fun w1 vals hB hd K hK => ?_) ?_
    · clear hd
      simp only [putAll, Act.put, List.setIfInBounds_toArray, List.set_cons_zero, List.set_cons_succ] at hK ⊢
      obtain ⟨ve, hve⟩ : ∃ f : Nat → Value, f = vals := ⟨_, rfl⟩
      rw [← hve] at hK  ⊢
      clear hve
      refine gwp_none rfl ?_
      go_simp
      exact hK _ _ rfl (Below.refl _ _)
    refine And.intro (fun w1 vals hB hd K hK => ?_) ?_
    · have e5 : vals 5 = .pointer (some ⟨w.heap.size, 3, none⟩) := told_at (hd 5 rfl) rfl
      clear hd
      simp only [putAll, Act.put, List.setIfInBounds_toArray, List.set_cons_zero, List.set_cons_succ] at hK ⊢
      simp only [e5] at hK ⊢
      obtain ⟨ve, hve⟩ : ∃ f : Nat → Value, f = vals := ⟨_, rfl⟩
      rw [← hve] at hK  ⊢
      clear e5 hve
      refine gwp_none rfl ?_
      go_simp
      exact hK _ _ rfl (Below.refl _ _)
    refine And.intro (fun w1 vals hB hd K hK => ?_) ?_
    · have e6 : vals 6 = .pointer (some ⟨w.heap.size, 3, none⟩) := told_at (hd 6 rfl) rfl
      clear hd
      simp only [putAll, Act.put, List.setIfInBounds_toArray, List.set_cons_zero, List.set_cons_succ] at hK ⊢
      simp only [e6] at hK ⊢
      obtain ⟨ve, hve⟩ : ∃ f : Nat → Value, f = vals := ⟨_, rfl⟩
      rw [← hve] at hK  ⊢
      clear e6 hve
      refine gwp_none rfl ?_
      have hc := Haat1.out w1 hB
      go_simp
      exact hK _ _ rfl (Below.refl _ _)
    refine And.intro (fun w1 vals hB hd K hK => ?_) ?_
    · clear hd
      simp only [putAll, Act.put, List.setIfInBounds_toArray, List.set_cons_zero, List.set_cons_succ] at hK ⊢
      obtain ⟨ve, hve⟩ : ∃ f : Nat → Value, f = vals := ⟨_, rfl⟩
      rw [← hve] at hK  ⊢
      clear hve
      refine gwp_none rfl ?_
      go_simp
      exact hK _ _ rfl (Below.refl _ _)
    refine And.intro (fun w1 vals hB hd K hK => ?_) ?_
    · have e8 : vals 8 = .pointer (some ⟨w.heap.size + 1, 3, none⟩) := told_at (hd 8 rfl) rfl
      clear hd
      simp only [putAll, Act.put, List.setIfInBounds_toArray, List.set_cons_zero, List.set_cons_succ] at hK ⊢
      simp only [e8] at hK ⊢
      obtain ⟨ve, hve⟩ : ∃ f : Nat → Value, f = vals := ⟨_, rfl⟩
      rw [← hve] at hK  ⊢
      clear e8 hve
      refine gwp_none rfl ?_
      go_simp
      exact hK _ _ rfl (Below.refl _ _)
    refine And.intro (fun w1 vals hB hd K hK => ?_) ?_
    · have e9 : vals 9 = .pointer (some ⟨w.heap.size + 1, 3, none⟩) := told_at (hd 9 rfl) rfl
      clear hd
      simp only [putAll, Act.put, List.setIfInBounds_toArray, List.set_cons_zero, List.set_cons_succ] at hK ⊢
      simp only [e9] at hK ⊢
      obtain ⟨ve, hve⟩ : ∃ f : Nat → Value, f = vals := ⟨_, rfl⟩
      rw [← hve] at hK  ⊢
      clear e9 hve
      refine gwp_none rfl ?_
      have hc := Hbat1.out w1 hB
      go_simp
      exact hK _ _ rfl (Below.refl _ _)
    refine And.intro (fun w1 vals hB hd K hK => ?_) ?_
    · have e7 : vals 7 = .int .i64 a.at1 := told_at (hd 7 rfl) rfl
      have e10 : vals 10 = .int .i64 b.at1 := told_at (hd 10 rfl) rfl
      clear hd
      simp only [putAll, Act.put, List.setIfInBounds_toArray, List.set_cons_zero, List.set_cons_succ] at hK ⊢
      simp only [e7, e10] at hK ⊢
      obtain ⟨ve, hve⟩ : ∃ f : Nat → Value, f = vals := ⟨_, rfl⟩
      rw [← hve] at hK  ⊢
      clear e7 e10 hve
      refine gwp_none rfl ?_
      go_simp
      refine (Tryz.cmp_Compare_int a.at1 b.at1 w1).mono ?_
      rintro e w2 ⟨rfl, rfl⟩
      exact hK _ _ rfl (Below.refl _ _)
    refine And.intro (fun w1 vals hB hd K hK => ?_) ?_
    · clear hd
      simp only [putAll, Act.put, List.setIfInBounds_toArray, List.set_cons_zero, List.set_cons_succ] at hK ⊢
      obtain ⟨ve, hve⟩ : ∃ f : Nat → Value, f = vals := ⟨_, rfl⟩
      rw [← hve] at hK  ⊢
      clear hve
      refine gwp_none rfl ?_
      go_simp
      exact hK _ _ rfl (Below.refl _ _)
    refine And.intro (fun w1 vals hB hd K hK => ?_) ?_
    · have e12 : vals 12 = .pointer (some ⟨w.heap.size, 5, none⟩) := told_at (hd 12 rfl) rfl
      clear hd
      simp only [putAll, Act.put, List.setIfInBounds_toArray, List.set_cons_zero, List.set_cons_succ] at hK ⊢
      simp only [e12] at hK ⊢
      obtain ⟨ve, hve⟩ : ∃ f : Nat → Value, f = vals := ⟨_, rfl⟩
      rw [← hve] at hK  ⊢
      clear e12 hve
      refine gwp_none rfl ?_
      have hc := Harank.out w1 hB
      go_simp
      exact hK _ _ rfl (Below.refl _ _)
    refine And.intro (fun w1 vals hB hd K hK => ?_) ?_
    · clear hd
      simp only [putAll, Act.put, List.setIfInBounds_toArray, List.set_cons_zero, List.set_cons_succ] at hK ⊢
      obtain ⟨ve, hve⟩ : ∃ f : Nat → Value, f = vals := ⟨_, rfl⟩
      rw [← hve] at hK  ⊢
      clear hve
      refine gwp_none rfl ?_
      go_simp
      exact hK _ _ rfl (Below.refl _ _)
    refine And.intro (fun w1 vals hB hd K hK => ?_) ?_
    · have e14 : vals 14 = .pointer (some ⟨w.heap.size + 1, 5, none⟩) := told_at (hd 14 rfl) rfl
      clear hd
      simp only [putAll, Act.put, List.setIfInBounds_toArray, List.set_cons_zero, List.set_cons_succ] at hK ⊢
      simp only [e14] at hK ⊢
      obtain ⟨ve, hve⟩ : ∃ f : Nat → Value, f = vals := ⟨_, rfl⟩
      rw [← hve] at hK  ⊢
      clear e14 hve
      refine gwp_none rfl ?_
      have hc := Hbrank.out w1 hB
      go_simp
      exact hK _ _ rfl (Below.refl _ _)
    refine And.intro (fun w1 vals hB hd K hK => ?_) ?_
    · have e13 : vals 13 = .int .i64 a.rank := told_at (hd 13 rfl) rfl
      have e15 : vals 15 = .int .i64 b.rank := told_at (hd 15 rfl) rfl
      clear hd
      simp only [putAll, Act.put, List.setIfInBounds_toArray, List.set_cons_zero, List.set_cons_succ] at hK ⊢
      simp only [e13, e15] at hK ⊢
      obtain ⟨ve, hve⟩ : ∃ f : Nat → Value, f = vals := ⟨_, rfl⟩
      rw [← hve] at hK  ⊢
      clear e13 e15 hve
      refine gwp_none rfl ?_
      go_simp
      refine (Tryz.cmp_Compare_int a.rank b.rank w1).mono ?_
      rintro e w2 ⟨rfl, rfl⟩
      exact hK _ _ rfl (Below.refl _ _)
    refine And.intro (fun w1 vals hB hd K hK => ?_) ?_
    · have e4 : vals 4 = .int .i64 (Lib.compareInt a.parent b.parent) := told_at (hd 4 rfl) rfl
      have e11 : vals 11 = .int .i64 (Lib.compareInt a.at1 b.at1) := told_at (hd 11 rfl) rfl
      have e16 : vals 16 = .int .i64 (Lib.compareInt a.rank b.rank) := told_at (hd 16 rfl) rfl
      clear hd
      simp only [putAll, Act.put, List.setIfInBounds_toArray, List.set_cons_zero, List.set_cons_succ] at hK ⊢
      simp only [e4, e11, e16] at hK ⊢
      obtain ⟨ve, hve⟩ : ∃ f : Nat → Value, f = vals := ⟨_, rfl⟩
      rw [← hve] at hK  ⊢
      clear e4 e11 e16 hve
      refine gwp_none rfl ?_
      go_simp
      exact hK _ _ ⟨_, _, rfl, ir_new w1 3 [Lib.compareInt a.parent b.parent, Lib.compareInt a.at1 b.at1, Lib.compareInt a.rank b.rank] _ rfl _ rfl⟩ (below_new _ _)
    refine And.intro (fun w1 vals hB hd K hK => ?_) ?_
    · have p17 := told_at (t := Told.such (fun v w => ∃ A c, v = .slice A 3 c ∧ IR w w.heap.size A 3 [Lib.compareInt a.parent b.parent, Lib.compareInt a.at1 b.at1, Lib.compareInt a.rank b.rank]) (fun v w w' ⟨A, c, h1, h2⟩ hb => ⟨A, c, h1, IR.on h2 hb⟩)) (hd 17 rfl) rfl
      simp only [Told.holds] at p17
      clear hd
      obtain ⟨x17, hx17⟩ : ∃ x, vals 17 = x := ⟨_, rfl⟩
      rw [hx17] at p17
      simp only [putAll, Act.put, List.setIfInBounds_toArray, List.set_cons_zero, List.set_cons_succ] at hK ⊢
      simp only [hx17] at hK ⊢
      obtain ⟨ve, hve⟩ : ∃ f : Nat → Value, f = vals := ⟨_, rfl⟩
      rw [← hve] at hK  ⊢
      clear hx17 hve
      refine gwp_none rfl ?_
      obtain ⟨A, c, rfl, hir⟩ := p17
      go_simp
      refine (cmpOr_any A 3 c [Lib.compareInt a.parent b.parent, Lib.compareInt a.at1 b.at1, Lib.compareInt a.rank b.rank] w1 hir (by omega)).mono ?_
      rintro e w2 ⟨rfl, rfl⟩
      exact hK _ _ rfl (Below.refl _ _)
    refine And.intro (fun w1 vals hB hd K hK => ?_) ?_
    · have e18 : vals 18 = .int .i64 (ordN a b) := told_at (hd 18 rfl) rfl
      clear hd
      simp only [putAll, Act.put, List.setIfInBounds_toArray, List.set_cons_zero, List.set_cons_succ] at hK ⊢
      simp only [e18] at hK ⊢
      obtain ⟨ve, hve⟩ : ∃ f : Nat → Value, f = vals := ⟨_, rfl⟩
      rw [← hve] at hK  ⊢
      clear e18 hve
      refine gwp_none rfl ?_
      go_simp
      exact hK _ _ rfl (Below.refl _ _)
    exact trivial
  · intro w1 vals hB hd
    have e19 : vals 19 = .int .i64 (ordN a b) := told_at (hd 19 (by decide)) rfl
    clear hd
    simp only [putAll, Act.put, List.setIfInBounds_toArray, List.set_cons_zero, List.set_cons_succ]
    simp only [e19]
    obtain ⟨ve, hve⟩ : ∃ f : Nat → Value, f = vals := ⟨_, rfl⟩
    rw [← hve]
    clear e19 hve
    go_wp2
    go_ret
    exact ⟨rfl, HBW.out.trans (hB.mono HBW.out.size)⟩
end Go.Proofs.YthcabnfcgjnlnaaGreatDoor
/-
  A ROW OF RECORDS THAT IS SORTED IN PLACE: what the world holds while a call writes into n records of s cells of one block and lays new blocks.
-/
set_option linter.unusedVariables false
set_option linter.unusedSimpArgs false
namespace Go.Proofs.YthcabnfcgjnlnaaGreatDoor
open Go.RowKit

/-- Since w0: the n records of block blk from off on are enc (d 0) .. enc (d (n-1)), s cells each; all else that was there is as it was; new blocks may have come. -/
structure SK {α : Type} (enc : α → List Value) (s : Nat) (w0 : World) (blk off n : Nat) (d : Nat → α) (W : World) : Prop where
  os : W.os = w0.os
  tape : W.tape = w0.tape
  output : W.output = w0.output
  size : w0.heap.size ≤ W.heap.size
  block : ∀ k, k < w0.heap.size → k ≠ blk → W.heap[k]? = w0.heap[k]?
  lt : blk < w0.heap.size
  cells : ∀ j, j < n → W.rangeAt blk (off + j * s) (enc (d j))
  there : W.there blk off (n * s)
  obj : ∃ c c' e fr, w0.heap[blk]? = some (.cells c e fr) ∧ W.heap[blk]? = some (.cells c' e fr) ∧ c'.size = c.size ∧ ∀ k, (k < off ∨ off + n * s ≤ k) → c'[k]? = c[k]?

theorem heap_setCells_self (b : Nat) : ∀ (vs : List Value) (o : Nat) (w : World) (c : Array Value) (e : TypeId) (fr : Nat × Nat), w.heap[b]? = some (.cells c e fr) →
    ∃ c', (w.setCells b o vs).heap[b]? = some (.cells c' e fr) ∧ c'.size = c.size ∧ ∀ k, (k < o ∨ o + vs.length ≤ k) → c'[k]? = c[k]?
  | [], o, w, c, e, fr, h => ⟨c, h, rfl, fun _ _ => rfl⟩
  | v :: r, o, w, c, e, fr, h => by
    have h1 : (w.setCell ⟨b, o, none⟩ v).heap[b]? = some (.cells (c.setIfInBounds o v) e fr) := by simp [World.setCell, Array.getElem?_modify, h]
    obtain ⟨c', h2, h3, h4⟩ := heap_setCells_self b r (o + 1) (w.setCell ⟨b, o, none⟩ v) _ e fr h1
    refine ⟨c', h2, by rw [h3]; simp, fun k hk => ?_⟩
    rw [h4 k (by simp at hk; omega), Array.getElem?_setIfInBounds, if_neg (by simp at hk; omega)]
theorem size_setCells (b : Nat) : ∀ (vs : List Value) (o : Nat) (w : World), (w.setCells b o vs).heap.size = w.heap.size
  | [], _, _ => rfl
  | v :: r, o, w => by
    show ((w.setCell ⟨b, o, none⟩ v).setCells b (o + 1) r).heap.size = _
    rw [size_setCells b r (o + 1)]
    simp
theorem tape_setCells (b : Nat) : ∀ (vs : List Value) (o : Nat) (w : World), (w.setCells b o vs).tape = w.tape
  | [], _, _ => rfl
  | v :: r, o, w => by
    show ((w.setCell ⟨b, o, none⟩ v).setCells b (o + 1) r).tape = _
    rw [tape_setCells b r (o + 1)]
    rfl
section
variable {α : Type} {enc : α → List Value} {s : Nat} {w0 W W' : World} {blk off n : Nat} {d : Nat → α}
theorem SK.below (h : SK enc s w0 blk off n d W) (hb : Below W.heap.size W W') : SK enc s w0 blk off n d W' := by
  have hlt : blk < W.heap.size := Nat.lt_of_lt_of_le h.lt h.size
  refine ⟨hb.os.trans h.os, hb.tape.trans h.tape, hb.output.trans h.output, Nat.le_trans h.size hb.size, fun k hk hn => (hb.block k (Nat.lt_of_lt_of_le hk h.size)).trans (h.block k hk hn), h.lt,
    fun j hj i v hv => (hb.cell (p := ⟨blk, off + j * s + i, none⟩) hlt).trans (h.cells j hj i v hv), fun j hj => ?_, ?_⟩
  · obtain ⟨h1, h2⟩ := h.there j hj
    exact ⟨by rw [hb.cell (p := ⟨blk, off + j, none⟩) hlt]; exact h1, (hb.frozen (p := ⟨blk, off + j, none⟩) hlt).trans h2⟩
  · obtain ⟨c, c', e, fr, h1, h2, h3, h4⟩ := h.obj
    exact ⟨c, c', e, fr, h1, (hb.block blk hlt).trans h2, h3, h4⟩
theorem SK.drewN (h : SK enc s w0 blk off n d W) (k : Nat) : SK enc s w0 blk off n d (W.drewN k) := h.below (below_drewN (Below.refl _ _) k)
theorem SK.drew (h : SK enc s w0 blk off n d W) : SK enc s w0 blk off n d W.drew := h.drewN 1
theorem SK.room (h : SK enc s w0 blk off n d W) {j : Nat} (hj : j < n) : W.there blk (off + j * s) s := fun i hi => by
  have h1 : j * s + i < n * s := by
    have : (j + 1) * s ≤ n * s := Nat.mul_le_mul_right s hj
    rw [Nat.add_mul] at this
    omega
  have := h.there (j * s + i) h1
  rw [show off + (j * s + i) = off + j * s + i by omega] at this
  exact this
theorem SK.store (hl : ∀ x, (enc x).length = s) (h : SK enc s w0 blk off n d W) {i : Nat} (hi : i < n) (x : α) : SK enc s w0 blk off n (upd d i x) (W.setCells blk (off + i * s) (enc x)) := by
  obtain ⟨c, c', e, fr, h1, h2, h3, h4⟩ := h.obj
  obtain ⟨c2, g1, g2, g3⟩ := heap_setCells_self blk (enc x) (off + i * s) W c' e fr h2
  have hend : i * s + s ≤ n * s := by
    have : (i + 1) * s ≤ n * s := Nat.mul_le_mul_right s hi
    rw [Nat.add_mul] at this
    omega
  refine ⟨(World.os_setCells _ _ _ _).trans h.os, (tape_setCells _ _ _ _).trans h.tape, (World.output_setCells _ _ _ _).trans h.output, by rw [size_setCells]; exact h.size, fun k hk hn => ?_, h.lt, fun j hj => ?_, World.there_setCells h.there _ _ _, c, c2, e, fr, h1, g1, by rw [g2]; exact h3, fun k hk => ?_⟩
  · rw [World.heap_setCells_other _ _ _ _ (Nat.lt_of_lt_of_le hk h.size) hn]
    exact h.block k hk hn
  · by_cases e2 : j = i
    · subst e2
      have : upd d j x j = x := by simp [upd]
      rw [this]
      exact World.rangeAt_setCells_same _ _ _ _ (by rw [hl]; exact h.room hj)
    · have : upd d i x j = d j := by simp [upd, e2]
      rw [this]
      refine World.rangeAt_setCells_apart (h.cells j hj) _ _ _ (.inr ?_)
      rw [hl, hl]
      rcases Nat.lt_or_gt_of_ne e2 with h5 | h5
      · have : (j + 1) * s ≤ i * s := Nat.mul_le_mul_right s h5
        rw [Nat.add_mul] at this
        omega
      · have : (i + 1) * s ≤ j * s := Nat.mul_le_mul_right s h5
        rw [Nat.add_mul] at this
        omega
  · rw [g3 k (by rw [hl]; omega)]
    exact h4 k hk
theorem SK.swapped (hl : ∀ x, (enc x).length = s) (h : SK enc s w0 blk off n d W) {i j : Nat} (hi : i < n) (hj : j < n) :
    SK enc s w0 blk off n (swpF d i j) ((W.setCells blk (off + i * s) (enc (d j))).setCells blk (off + j * s) (enc (d i))) := (h.store hl hi (d j)).store hl hj (d i)
theorem SK.congr (h : SK enc s w0 blk off n d W) {d' : Nat → α} (hd : ∀ j, j < n → d' j = d j) : SK enc s w0 blk off n d' W :=
  ⟨h.os, h.tape, h.output, h.size, h.block, h.lt, fun j hj => by rw [hd j hj]; exact h.cells j hj, h.there, h.obj⟩
theorem SK.belowBase (h : SK enc s w0 blk off n d W) {B : Nat} (hB : B ≤ blk) : Below B w0 W :=
  ⟨h.os, h.tape, h.output, h.size, fun k hk => h.block k (by have := h.lt; omega) (by omega)⟩
/-- A row of records of the call's own, begun. -/
theorem SK.start {base c : Nat} {e : TypeId} {l : List α} {g : Nat} (hl : ∀ x, (enc x).length = s) (hs : 0 < s) (h : OwnR enc s e w0 base (.slice (some ⟨g, 0, none⟩) l.length c) l) (hd : ∀ j x, l[j]? = some x → d j = x) : SK enc s w0 g 0 l.length d w0 := by
  have hlt := (h.lt g rfl).2
  have hobj := h.2
  refine ⟨rfl, rfl, rfl, Nat.le_refl _, fun _ _ _ => rfl, hlt, fun j hj i v hv => ?_, fun k hk => ?_, ?_⟩
  · have hx : l[j]? = some l[j] := List.getElem?_eq_getElem hj
    have his : i < s := by have := (List.getElem?_eq_some_iff.1 hv).1; rw [hl] at this; exact this
    rw [hd j _ hx] at hv
    have h1 : j * s + i < l.length * s := by
      have : (j + 1) * s ≤ l.length * s := Nat.mul_le_mul_right s hj
      rw [Nat.add_mul] at this
      omega
    rw [Nat.zero_add, World.ownsRow.cellAt h (j * s + i) h1, flat_at hl hx his]
    exact hv
  · refine ⟨?_, by rw [Nat.zero_add]; exact World.ownsRow.frozenAt h k⟩
    rw [Nat.zero_add, World.ownsRow.cellAt h k hk, List.getElem?_eq_getElem (by rw [flat_len hl]; exact hk)]
    rfl
  · rcases hobj with ⟨h1, _⟩ | ⟨g', cap, cur, hv, hg, hh, _⟩
    · cases h1
    · cases hv
      exact ⟨cur, cur, e, _, hh, hh, rfl, fun _ _ => rfl⟩
/-- The whole row of an owned slice, told again. -/
theorem SK.owned {base c : Nat} {e : TypeId} {l l' : List α} {g : Nat} (hl : ∀ x, (enc x).length = s) (hs : 0 < s) (h : SK enc s w0 g 0 l.length d W) (ho : OwnR enc s e w0 base (.slice (some ⟨g, 0, none⟩) l.length c) l) (hn : l'.length = l.length) (hd : ∀ j, j < l.length → l'[j]? = some (d j)) :
    OwnR enc s e W base (.slice (some ⟨g, 0, none⟩) l.length c) l' := by
  refine ⟨by rw [flat_len hl, hn], ?_⟩
  rcases ho.2 with ⟨h1, _⟩ | ⟨g', cap, cur, hv, hg, hh, hnc, hm, hsz, ht⟩
  · cases h1
  · cases hv
    obtain ⟨c1, c', e', fr, h1, h2, h3, h4⟩ := h.obj
    rw [hh] at h1
    cases h1
    refine .inr ⟨g, c, c', by rw [hn], hg, h2, by rw [hn]; exact hnc, hm, by rw [h3]; exact hsz, ?_⟩
    rw [hn]
    apply List.ext_getElem?
    intro k
    by_cases hk : k < l.length * s
    · have hj : k / s < l.length := (Nat.div_lt_iff_lt_mul hs).2 hk
      have hkm : k / s * s + k % s = k := by have := Nat.div_add_mod k s; rw [Nat.mul_comm] at this; exact this
      have hm2 : k % s < s := Nat.mod_lt _ hs
      have hx := hd (k / s) hj
      have hf := flat_at (f := enc) hl hx hm2
      rw [hkm] at hf
      have hxe : (enc (d (k / s)))[k % s]? = some ((enc (d (k / s)))[k % s]'(by rw [hl]; exact hm2)) := List.getElem?_eq_getElem _
      have hc := h.cells (k / s) hj (k % s) _ hxe
      rw [Nat.zero_add, hkm] at hc
      simp only [World.cell?, h2] at hc
      rw [hf, hxe, List.getElem?_take, if_pos hk]
      simpa using hc
    · rw [List.getElem?_eq_none (by rw [List.length_take]; omega), List.getElem?_eq_none (by rw [flat_len hl, hn]; omega)]
end
end Go.Proofs.YthcabnfcgjnlnaaGreatDoor
