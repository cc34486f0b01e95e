/-
  THE STABLE SORT OF A ROW OF LINES, of any length (SortRot, turned).
-/
import Derived.Test.YtdpllfgnppeneaaDoorG15
namespace Go.Proofs.YtdpllfgnppeneaaDoor
open Go.RowKit Srt Col
set_option linter.unusedVariables false
set_option linter.unusedSimpArgs false

set_option maxHeartbeats 16000000 in
set_option maxRecDepth 1000000 in
theorem swapRange_any (fv : Value) (blk off cap n a b m : Nat) (d : Nat → Tag Hv) (w0 w : World)
    (S : SK (fun p : Tag Hv => encH p.1) 5 w0 blk off n d w) (hab : a + m ≤ b) (hb : b + m ≤ n) (hsz : n < 4611686018427387904) :
    Calls Tryd.prog 128 #[.slice (some ⟨blk, off, none⟩) n cap, .int .i64 a, .int .i64 b, .int .i64 m, fv] w fun e w' => e = .returned (.tuple #[]) ∧
      ∃ d', SK (fun p : Tag Hv => encH p.1) 5 w0 blk off n d' w' ∧ Swapped d d' a b m := by
  have S0 := Lib.hid S; clear S
  go_enter Tryd.func128, Tryd.ntmps128
  go_wp2
  go_loopg [10] m (fun g1 vi wr => ∃ (i : Nat) (dk : Nat → Tag Hv), vi = .int .i64 i ∧ i ≤ m ∧ m - i ≤ g1 ∧ Hid (SK (fun p : Tag Hv => encH p.1) 5 w0 blk off n dk wr) ∧ Hid (Swapped d dk a b i))
  case atStart => exact ⟨0, d, rfl, by omega, by omega, S0, swapped_zero _ _ _⟩
  case round =>
    clear S0
    obtain ⟨i, dk, rfl, hi, hg1, S1, P1⟩ := hrel
    by_cases hlt : i < m
    · have hltz : (i : Int) < (m : Int) := by omega
      have P2 : Hid (Swapped d (swpF dk (a + i) (b + i)) a b (i + 1)) := swapped_step P1.out (by omega)
      obtain ⟨x, hx⟩ : ∃ x, Hid (dk (a + i) = x) := ⟨_, rfl⟩
      obtain ⟨y, hy⟩ : ∃ y, Hid (dk (b + i) = y) := ⟨_, rfl⟩
      have S2d : Hid (SK (fun p : Tag Hv => encH p.1) 5 w0 blk off n dk wr.drew) := S1.out.drew
      obtain ⟨wd, hwd⟩ : ∃ wd, wr.drew = wd := ⟨_, rfl⟩
      rw [hwd] at S2d
      have hin : a + i < n := by omega
      have hjn : b + i < n := by omega
      have hr1 := Lib.hid (S2d.out.room hin)
      have hr2 := Lib.hid (S2d.out.room hjn)
      obtain ⟨wS, hwS⟩ : ∃ wS, wd.setCells blk (off + (a + i) * 5) (#[.int .i64 y.1.rid, .int .i64 y.1.nid, .slice y.1.la y.1.ln y.1.lc, .string y.1.key, .slice y.1.ra y.1.rn y.1.rc] : Array Value).toList = wS := ⟨_, rfl⟩
      have hr3 : Hid (wS.there blk (off + (b + i) * 5) 5) := by rw [← hwS]; exact World.there_setCells hr2.out _ _ _
      have hcx : wd.rangeAt blk (off + (a + i) * 5) [.int .i64 x.1.rid, .int .i64 x.1.nid, .slice x.1.la x.1.ln x.1.lc, .string x.1.key, .slice x.1.ra x.1.rn x.1.rc] := by have := S2d.out.cells (a + i) hin; rw [hx.out] at this; exact this
      have hcy : wd.rangeAt blk (off + (b + i) * 5) [.int .i64 y.1.rid, .int .i64 y.1.nid, .slice y.1.la y.1.ln y.1.lc, .string y.1.key, .slice y.1.ra y.1.rn y.1.rc] := by have := S2d.out.cells (b + i) hjn; rw [hy.out] at this; exact this
      have S3 : Hid (SK (fun p : Tag Hv => encH p.1) 5 w0 blk off n (swpF dk (a + i) (b + i)) (wS.setCells blk (off + (b + i) * 5) (#[.int .i64 x.1.rid, .int .i64 x.1.nid, .slice x.1.la x.1.ln x.1.lc, .string x.1.key, .slice x.1.ra x.1.rn x.1.rc] : Array Value).toList)) := by
        rw [← hwS]
        have := S2d.out.swapped encHt_len (i := a + i) (j := b + i) hin hjn
        rw [hx.out, hy.out] at this
        exact this
      clear S1 P1 S2d hr2
      have e1 : ((a : Int) + (i : Int)).toNat = a + i := by omega
      have e2 : ((b : Int) + (i : Int)).toNat = b + i := by omega
      have p1 : (0 : Int) ≤ (a : Int) + (i : Int) := by omega
      have p2 : (0 : Int) ≤ (b : Int) + (i : Int) := by omega
      have b1 : (a : Int) + (i : Int) < (n : Int) := by omega
      have b2 : (b : Int) + (i : Int) < (n : Int) := by omega
      have r1 : IntKind.i64.wrap ((a : Int) + (i : Int)) = (a : Int) + (i : Int) := by rw [IntKind.wrap_i64]; omega
      have r2 : IntKind.i64.wrap ((b : Int) + (i : Int)) = (b : Int) + (i : Int) := by rw [IntKind.wrap_i64]; omega
      go_wp2_with fail
      refine wp_region_noPanic ?_
      refine wp_region_held_drew (S := fun _ => True) (by kernel_rfl) ?_ (fun hHeld => ?_)
      · trivial
      rw [hwd]
      clear hwd
      refine wpAnyH_take (i := 0) (oi := { dst := some 16, op := Go.Op.move (Go.Operand.tmp 0), type := 36, pos := "zsortanyfunc.go:331", after := #[], guard := none }) (v := ?_) rfl (by kernel_rfl) (by kernel_rfl) (by kernel_rfl) (fun _ _ _ h => h) (Or.inl ⟨by rfl, ?_⟩) (by assumption) ?_
      rotate_left
      · (intro w hSw; (try dsimp only at hSw); go_simp; try with_reducible rfl)
      rotate_left
      try simp only [Act.put, List.setIfInBounds_toArray, List.set_cons_zero, List.set_cons_succ]
      refine wpAnyH_take (i := 1) (oi := { dst := some 17, op := Go.Op.move (Go.Operand.tmp 1), type := 3, pos := "zsortanyfunc.go:331", after := #[], guard := none }) (v := ?_) rfl (by kernel_rfl) (by kernel_rfl) (by kernel_rfl) (fun _ _ _ h => h) (Or.inl ⟨by rfl, ?_⟩) (by assumption) ?_
      rotate_left
      · (intro w hSw; (try dsimp only at hSw); go_simp; try with_reducible rfl)
      rotate_left
      try simp only [Act.put, List.setIfInBounds_toArray, List.set_cons_zero, List.set_cons_succ]
      refine wpAnyH_take (i := 2) (oi := { dst := some 18, op := Go.Op.move (Go.Operand.tmp 10), type := 3, pos := "zsortanyfunc.go:331", after := #[], guard := none }) (v := ?_) rfl (by kernel_rfl) (by kernel_rfl) (by kernel_rfl) (fun _ _ _ h => h) (Or.inl ⟨by rfl, ?_⟩) (by assumption) ?_
      rotate_left
      · (intro w hSw; (try dsimp only at hSw); go_simp; try with_reducible rfl)
      rotate_left
      try simp only [Act.put, List.setIfInBounds_toArray, List.set_cons_zero, List.set_cons_succ]
      refine wpAnyH_take (i := 3) (oi := { dst := some 19, op := Go.Op.binOp Go.BinOp.add 3 (Go.Operand.tmp 17) (Go.Operand.tmp 18) 3, type := 3, pos := "zsortanyfunc.go:331", after := #[{ on := 1, ground := Go.Ground.data }, { on := 2, ground := Go.Ground.data }], guard := none }) (v := ?_) rfl (by kernel_rfl) (by kernel_rfl) (by kernel_rfl) (fun _ _ _ h => h) (Or.inl ⟨by rfl, ?_⟩) (by assumption) ?_
      rotate_left
      · (intro w hSw; (try dsimp only at hSw); go_simp; try with_reducible rfl)
      rotate_left
      try simp only [Act.put, List.setIfInBounds_toArray, List.set_cons_zero, List.set_cons_succ]
      refine wpAnyH_take (i := 4) (oi := { dst := some 20, op := Go.Op.move (Go.Operand.tmp 0), type := 36, pos := "zsortanyfunc.go:331", after := #[{ on := 21, ground := Go.Ground.gcOnly Go.Departure.lateStores }], guard := none }) (v := ?_) rfl (by kernel_rfl) (by kernel_rfl) (by kernel_rfl) (fun _ _ _ h => h) (Or.inl ⟨by rfl, ?_⟩) (by assumption) ?_
      rotate_left
      · (intro w hSw; (try dsimp only at hSw); go_simp; try with_reducible rfl)
      rotate_left
      try simp only [Act.put, List.setIfInBounds_toArray, List.set_cons_zero, List.set_cons_succ]
      refine wpAnyH_take (i := 5) (oi := { dst := some 21, op := Go.Op.move (Go.Operand.tmp 2), type := 3, pos := "zsortanyfunc.go:331", after := #[{ on := 21, ground := Go.Ground.gcOnly Go.Departure.lateStores }], guard := none }) (v := ?_) rfl (by kernel_rfl) (by kernel_rfl) (by kernel_rfl) (fun _ _ _ h => h) (Or.inl ⟨by rfl, ?_⟩) (by assumption) ?_
      rotate_left
      · (intro w hSw; (try dsimp only at hSw); go_simp; try with_reducible rfl)
      rotate_left
      try simp only [Act.put, List.setIfInBounds_toArray, List.set_cons_zero, List.set_cons_succ]
      refine wpAnyH_take (i := 6) (oi := { dst := some 22, op := Go.Op.move (Go.Operand.tmp 10), type := 3, pos := "zsortanyfunc.go:331", after := #[{ on := 21, ground := Go.Ground.gcOnly Go.Departure.lateStores }], guard := none }) (v := ?_) rfl (by kernel_rfl) (by kernel_rfl) (by kernel_rfl) (fun _ _ _ h => h) (Or.inl ⟨by rfl, ?_⟩) (by assumption) ?_
      rotate_left
      · (intro w hSw; (try dsimp only at hSw); go_simp; try with_reducible rfl)
      rotate_left
      try simp only [Act.put, List.setIfInBounds_toArray, List.set_cons_zero, List.set_cons_succ]
      refine wpAnyH_take (i := 7) (oi := { dst := some 23, op := Go.Op.binOp Go.BinOp.add 3 (Go.Operand.tmp 21) (Go.Operand.tmp 22) 3, type := 3, pos := "zsortanyfunc.go:331", after := #[{ on := 5, ground := Go.Ground.data }, { on := 6, ground := Go.Ground.data }, { on := 21, ground := Go.Ground.gcOnly Go.Departure.lateStores }], guard := none }) (v := ?_) rfl (by kernel_rfl) (by kernel_rfl) (by kernel_rfl) (fun _ _ _ h => h) (Or.inl ⟨by rfl, ?_⟩) (by assumption) ?_
      rotate_left
      · (intro w hSw; (try dsimp only at hSw); go_simp; try with_reducible rfl)
      rotate_left
      try simp only [Act.put, List.setIfInBounds_toArray, List.set_cons_zero, List.set_cons_succ]
      refine wpAnyH_take (i := 8) (oi := { dst := some 24, op := Go.Op.move (Go.Operand.tmp 0), type := 36, pos := "zsortanyfunc.go:331", after := #[], guard := none }) (v := ?_) rfl (by kernel_rfl) (by kernel_rfl) (by kernel_rfl) (fun _ _ _ h => h) (Or.inl ⟨by rfl, ?_⟩) (by assumption) ?_
      rotate_left
      · (intro w hSw; (try dsimp only at hSw); go_simp; try with_reducible rfl)
      rotate_left
      try simp only [Act.put, List.setIfInBounds_toArray, List.set_cons_zero, List.set_cons_succ]
      refine wpAnyH_take (i := 9) (oi := { dst := some 25, op := Go.Op.move (Go.Operand.tmp 2), type := 3, pos := "zsortanyfunc.go:331", after := #[], guard := none }) (v := ?_) rfl (by kernel_rfl) (by kernel_rfl) (by kernel_rfl) (fun _ _ _ h => h) (Or.inl ⟨by rfl, ?_⟩) (by assumption) ?_
      rotate_left
      · (intro w hSw; (try dsimp only at hSw); go_simp; try with_reducible rfl)
      rotate_left
      try simp only [Act.put, List.setIfInBounds_toArray, List.set_cons_zero, List.set_cons_succ]
      refine wpAnyH_take (i := 10) (oi := { dst := some 26, op := Go.Op.move (Go.Operand.tmp 10), type := 3, pos := "zsortanyfunc.go:331", after := #[], guard := none }) (v := ?_) rfl (by kernel_rfl) (by kernel_rfl) (by kernel_rfl) (fun _ _ _ h => h) (Or.inl ⟨by rfl, ?_⟩) (by assumption) ?_
      rotate_left
      · (intro w hSw; (try dsimp only at hSw); go_simp; try with_reducible rfl)
      rotate_left
      try simp only [Act.put, List.setIfInBounds_toArray, List.set_cons_zero, List.set_cons_succ]
      refine wpAnyH_take (i := 11) (oi := { dst := some 27, op := Go.Op.binOp Go.BinOp.add 3 (Go.Operand.tmp 25) (Go.Operand.tmp 26) 3, type := 3, pos := "zsortanyfunc.go:331", after := #[{ on := 9, ground := Go.Ground.data }, { on := 10, ground := Go.Ground.data }], guard := none }) (v := ?_) rfl (by kernel_rfl) (by kernel_rfl) (by kernel_rfl) (fun _ _ _ h => h) (Or.inl ⟨by rfl, ?_⟩) (by assumption) ?_
      rotate_left
      · (intro w hSw; (try dsimp only at hSw); go_simp; try with_reducible rfl)
      rotate_left
      try simp only [Act.put, List.setIfInBounds_toArray, List.set_cons_zero, List.set_cons_succ]
      refine wpAnyH_take (i := 12) (oi := { dst := some 28, op := Go.Op.indexAddr 36 (Go.Operand.tmp 24) (Go.Operand.tmp 27), type := 0, pos := "zsortanyfunc.go:331", after := #[{ on := 8, ground := Go.Ground.data }, { on := 11, ground := Go.Ground.data }], guard := none }) (v := ?_) rfl (by kernel_rfl) (by kernel_rfl) (by kernel_rfl) (fun _ _ _ h => h) (Or.inl ⟨by rfl, ?_⟩) (by assumption) ?_
      rotate_left
      · (intro w hSw; (try dsimp only at hSw); go_simp; try with_reducible rfl)
      rotate_left
      try simp only [Act.put, List.setIfInBounds_toArray, List.set_cons_zero, List.set_cons_succ]
      refine wpAnyH_take (i := 14) (oi := { dst := some 30, op := Go.Op.move (Go.Operand.tmp 0), type := 36, pos := "zsortanyfunc.go:331", after := #[], guard := none }) (v := ?_) rfl (by kernel_rfl) (by kernel_rfl) (by kernel_rfl) (fun _ _ _ h => h) (Or.inl ⟨by rfl, ?_⟩) (by assumption) ?_
      rotate_left
      · (intro w hSw; (try dsimp only at hSw); go_simp; try with_reducible rfl)
      rotate_left
      try simp only [Act.put, List.setIfInBounds_toArray, List.set_cons_zero, List.set_cons_succ]
      refine wpAnyH_take (i := 15) (oi := { dst := some 31, op := Go.Op.move (Go.Operand.tmp 1), type := 3, pos := "zsortanyfunc.go:331", after := #[], guard := none }) (v := ?_) rfl (by kernel_rfl) (by kernel_rfl) (by kernel_rfl) (fun _ _ _ h => h) (Or.inl ⟨by rfl, ?_⟩) (by assumption) ?_
      rotate_left
      · (intro w hSw; (try dsimp only at hSw); go_simp; try with_reducible rfl)
      rotate_left
      try simp only [Act.put, List.setIfInBounds_toArray, List.set_cons_zero, List.set_cons_succ]
      refine wpAnyH_take (i := 16) (oi := { dst := some 32, op := Go.Op.move (Go.Operand.tmp 10), type := 3, pos := "zsortanyfunc.go:331", after := #[], guard := none }) (v := ?_) rfl (by kernel_rfl) (by kernel_rfl) (by kernel_rfl) (fun _ _ _ h => h) (Or.inl ⟨by rfl, ?_⟩) (by assumption) ?_
      rotate_left
      · (intro w hSw; (try dsimp only at hSw); go_simp; try with_reducible rfl)
      rotate_left
      try simp only [Act.put, List.setIfInBounds_toArray, List.set_cons_zero, List.set_cons_succ]
      refine wpAnyH_take (i := 17) (oi := { dst := some 33, op := Go.Op.binOp Go.BinOp.add 3 (Go.Operand.tmp 31) (Go.Operand.tmp 32) 3, type := 3, pos := "zsortanyfunc.go:331", after := #[{ on := 15, ground := Go.Ground.data }, { on := 16, ground := Go.Ground.data }], guard := none }) (v := ?_) rfl (by kernel_rfl) (by kernel_rfl) (by kernel_rfl) (fun _ _ _ h => h) (Or.inl ⟨by rfl, ?_⟩) (by assumption) ?_
      rotate_left
      · (intro w hSw; (try dsimp only at hSw); go_simp; try with_reducible rfl)
      rotate_left
      try simp only [Act.put, List.setIfInBounds_toArray, List.set_cons_zero, List.set_cons_succ]
      refine wpAnyH_take (i := 18) (oi := { dst := some 34, op := Go.Op.indexAddr 36 (Go.Operand.tmp 30) (Go.Operand.tmp 33), type := 0, pos := "zsortanyfunc.go:331", after := #[{ on := 14, ground := Go.Ground.data }, { on := 17, ground := Go.Ground.data }], guard := none }) (v := ?_) rfl (by kernel_rfl) (by kernel_rfl) (by kernel_rfl) (fun _ _ _ h => h) (Or.inl ⟨by rfl, ?_⟩) (by assumption) ?_
      rotate_left
      · (intro w hSw; (try dsimp only at hSw); go_simp; try with_reducible rfl)
      rotate_left
      try simp only [Act.put, List.setIfInBounds_toArray, List.set_cons_zero, List.set_cons_succ]
      refine wpAnyH_ready (rs := [13, 19]) (by kernel_rfl) (by simp) ?_
      refine AllReadyH.cons (o := { dst := some 29, op := Go.Op.load 33 (Go.Operand.tmp 28), type := 33, pos := "zsortanyfunc.go:331", after := #[{ on := 12, ground := Go.Ground.data }], guard := none }) rfl (fun K hK => ?_) ?_
      · rw [if_pos (show Region.wanted _ _ = true from rfl)]
        refine wp_load_mid 33 (.tmp 28) rfl blk (off + (b + i) * 5) rfl [.int .i64 y.1.rid, .int .i64 y.1.nid, .slice y.1.la y.1.ln y.1.lc, .string y.1.key, .slice y.1.ra y.1.rn y.1.rc] _ hcy Tryd.underlying33 rfl (by kernel_rfl) ?_
        refine hK.out _ _ ?_ (fun hHeld => ?_)
        · trivial
        clear hK K
        try simp only [Act.put, List.setIfInBounds_toArray, List.set_cons_zero, List.set_cons_succ]
        refine wpAnyH_ready (rs := [19]) (by kernel_rfl) (by simp) ?_
        refine AllReadyH.cons (o := { dst := some 35, op := Go.Op.load 33 (Go.Operand.tmp 34), type := 33, pos := "zsortanyfunc.go:331", after := #[{ on := 18, ground := Go.Ground.data }], guard := none }) rfl (fun K hK => ?_) AllReadyH.nil
        rw [if_pos (show Region.wanted _ _ = true from rfl)]
        refine wp_load_mid 33 (.tmp 34) rfl blk (off + (a + i) * 5) rfl [.int .i64 x.1.rid, .int .i64 x.1.nid, .slice x.1.la x.1.ln x.1.lc, .string x.1.key, .slice x.1.ra x.1.rn x.1.rc] _ hcx Tryd.underlying33 rfl (by kernel_rfl) ?_
        refine hK.out _ _ ?_ (fun hHeld => ?_)
        · trivial
        clear hK K
        try simp only [Act.put, List.setIfInBounds_toArray, List.set_cons_zero, List.set_cons_succ]
        refine wpAnyH_take (i := 20) (oi := { dst := some 36, op := Go.Op.indexAddr 36 (Go.Operand.tmp 16) (Go.Operand.tmp 19), type := 0, pos := "zsortanyfunc.go:331", after := #[{ on := 0, ground := Go.Ground.data }, { on := 3, ground := Go.Ground.data }, { on := 0, ground := Go.Ground.phase }, { on := 1, ground := Go.Ground.phase }, { on := 2, ground := Go.Ground.phase }, { on := 3, ground := Go.Ground.phase }, { on := 4, ground := Go.Ground.textOnly Go.Departure.lateStores }, { on := 5, ground := Go.Ground.textOnly Go.Departure.lateStores }, { on := 6, ground := Go.Ground.textOnly Go.Departure.lateStores }, { on := 7, ground := Go.Ground.textOnly Go.Departure.lateStores }, { on := 8, ground := Go.Ground.phase }, { on := 9, ground := Go.Ground.phase }, { on := 10, ground := Go.Ground.phase }, { on := 11, ground := Go.Ground.phase }, { on := 12, ground := Go.Ground.phase }, { on := 13, ground := Go.Ground.phase }, { on := 14, ground := Go.Ground.textOnly Go.Departure.lateStores }, { on := 15, ground := Go.Ground.textOnly Go.Departure.lateStores }, { on := 16, ground := Go.Ground.textOnly Go.Departure.lateStores }, { on := 17, ground := Go.Ground.textOnly Go.Departure.lateStores }, { on := 18, ground := Go.Ground.textOnly Go.Departure.lateStoresUnsure }, { on := 19, ground := Go.Ground.phase }], guard := none }) (v := ?_) rfl (by kernel_rfl) (by kernel_rfl) (by kernel_rfl) (fun _ _ _ h => h) (Or.inl ⟨by rfl, ?_⟩) (by assumption) ?_
        rotate_left
        · (intro w hSw; (try dsimp only at hSw); go_simp; try with_reducible rfl)
        rotate_left
        try simp only [Act.put, List.setIfInBounds_toArray, List.set_cons_zero, List.set_cons_succ]
        refine wpAnyH_ready (rs := [21]) (by kernel_rfl) (by simp) ?_
        refine AllReadyH.cons (o := { dst := none, op := Go.Op.store 33 (Go.Operand.tmp 36) (Go.Operand.tmp 29), type := 0, pos := "zsortanyfunc.go:331", after := #[{ on := 20, ground := Go.Ground.data }, { on := 13, ground := Go.Ground.data }, { on := 0, ground := Go.Ground.phase }, { on := 1, ground := Go.Ground.phase }, { on := 2, ground := Go.Ground.phase }, { on := 3, ground := Go.Ground.phase }, { on := 4, ground := Go.Ground.textOnly Go.Departure.lateStores }, { on := 5, ground := Go.Ground.textOnly Go.Departure.lateStores }, { on := 6, ground := Go.Ground.textOnly Go.Departure.lateStores }, { on := 7, ground := Go.Ground.textOnly Go.Departure.lateStores }, { on := 8, ground := Go.Ground.phase }, { on := 9, ground := Go.Ground.phase }, { on := 10, ground := Go.Ground.phase }, { on := 11, ground := Go.Ground.phase }, { on := 12, ground := Go.Ground.phase }, { on := 13, ground := Go.Ground.phase }, { on := 14, ground := Go.Ground.textOnly Go.Departure.lateStores }, { on := 15, ground := Go.Ground.textOnly Go.Departure.lateStores }, { on := 16, ground := Go.Ground.textOnly Go.Departure.lateStores }, { on := 17, ground := Go.Ground.textOnly Go.Departure.lateStores }, { on := 18, ground := Go.Ground.textOnly Go.Departure.lateStoresUnsure }, { on := 19, ground := Go.Ground.phase }], guard := none }) rfl (fun K hK => ?_) AllReadyH.nil
        rw [if_pos (show Region.wanted _ _ = true from rfl)]
        refine wp_store_mid 33 (.tmp 36) (.tmp 29) rfl blk (off + (a + i) * 5) #[.int .i64 y.1.rid, .int .i64 y.1.nid, .slice y.1.la y.1.ln y.1.lc, .string y.1.key, .slice y.1.ra y.1.rn y.1.rc] rfl rfl hr1.out (by kernel_rfl) (by simp [Value.oneCell']) ?_
        rw [hwS]
        refine hK.out _ _ ?_ (fun hHeld => ?_)
        · trivial
        clear hK K
        try simp only [Act.put, List.setIfInBounds_toArray, List.set_cons_zero, List.set_cons_succ]
        refine wpAnyH_take (i := 22) (oi := { dst := some 37, op := Go.Op.indexAddr 36 (Go.Operand.tmp 20) (Go.Operand.tmp 23), type := 0, pos := "zsortanyfunc.go:331", after := #[{ on := 4, ground := Go.Ground.data }, { on := 7, ground := Go.Ground.data }, { on := 0, ground := Go.Ground.phase }, { on := 1, ground := Go.Ground.phase }, { on := 2, ground := Go.Ground.phase }, { on := 3, ground := Go.Ground.phase }, { on := 4, ground := Go.Ground.phase }, { on := 5, ground := Go.Ground.phase }, { on := 6, ground := Go.Ground.phase }, { on := 7, ground := Go.Ground.phase }, { on := 8, ground := Go.Ground.phase }, { on := 9, ground := Go.Ground.phase }, { on := 10, ground := Go.Ground.phase }, { on := 11, ground := Go.Ground.phase }, { on := 12, ground := Go.Ground.phase }, { on := 13, ground := Go.Ground.phase }, { on := 14, ground := Go.Ground.phase }, { on := 15, ground := Go.Ground.phase }, { on := 16, ground := Go.Ground.phase }, { on := 17, ground := Go.Ground.phase }, { on := 18, ground := Go.Ground.phase }, { on := 19, ground := Go.Ground.phase }, { on := 20, ground := Go.Ground.phase }, { on := 21, ground := Go.Ground.phase }], guard := none }) (v := ?_) rfl (by kernel_rfl) (by kernel_rfl) (by kernel_rfl) (fun _ _ _ h => h) (Or.inl ⟨by rfl, ?_⟩) (by assumption) ?_
        rotate_left
        · (intro w hSw; (try dsimp only at hSw); go_simp; try with_reducible rfl)
        rotate_left
        try simp only [Act.put, List.setIfInBounds_toArray, List.set_cons_zero, List.set_cons_succ]
        refine wpAnyH_ready (rs := [23]) (by kernel_rfl) (by simp) ?_
        refine AllReadyH.cons (o := { dst := none, op := Go.Op.store 33 (Go.Operand.tmp 37) (Go.Operand.tmp 35), type := 0, pos := "zsortanyfunc.go:331", after := #[{ on := 22, ground := Go.Ground.data }, { on := 19, ground := Go.Ground.data }, { on := 21, ground := Go.Ground.chain }, { on := 0, ground := Go.Ground.phase }, { on := 1, ground := Go.Ground.phase }, { on := 2, ground := Go.Ground.phase }, { on := 3, ground := Go.Ground.phase }, { on := 4, ground := Go.Ground.phase }, { on := 5, ground := Go.Ground.phase }, { on := 6, ground := Go.Ground.phase }, { on := 7, ground := Go.Ground.phase }, { on := 8, ground := Go.Ground.phase }, { on := 9, ground := Go.Ground.phase }, { on := 10, ground := Go.Ground.phase }, { on := 11, ground := Go.Ground.phase }, { on := 12, ground := Go.Ground.phase }, { on := 13, ground := Go.Ground.phase }, { on := 14, ground := Go.Ground.phase }, { on := 15, ground := Go.Ground.phase }, { on := 16, ground := Go.Ground.phase }, { on := 17, ground := Go.Ground.phase }, { on := 18, ground := Go.Ground.phase }, { on := 19, ground := Go.Ground.phase }, { on := 20, ground := Go.Ground.phase }, { on := 21, ground := Go.Ground.phase }], guard := none }) rfl (fun K hK => ?_) AllReadyH.nil
        rw [if_pos (show Region.wanted _ _ = true from rfl)]
        refine wp_store_mid 33 (.tmp 37) (.tmp 35) rfl blk (off + (b + i) * 5) #[.int .i64 x.1.rid, .int .i64 x.1.nid, .slice x.1.la x.1.ln x.1.lc, .string x.1.key, .slice x.1.ra x.1.rn x.1.rc] rfl rfl hr3.out (by kernel_rfl) (by simp [Value.oneCell']) ?_
        refine hK.out _ _ ?_ (fun hHeld => ?_)
        · trivial
        clear hK K
        try simp only [Act.put, List.setIfInBounds_toArray, List.set_cons_zero, List.set_cons_succ]
        refine wpAnyH_done (by kernel_rfl) ?_ _
        refine NoPanic.normal ?_
        clear hr1 hr3 hcx hcy hwS
        generalize wS.setCells blk (off + (b + i) * 5) (#[.int .i64 x.1.rid, .int .i64 x.1.nid, .slice x.1.la x.1.ln x.1.lc, .string x.1.key, .slice x.1.ra x.1.rn x.1.rc] : Array Value).toList = w3 at S3 ⊢
        clear e1 e2 r1 r2
        go_wp2
        go_roundg (m - (i + 1))
        case measure => omega
        case rel => exact ⟨i + 1, _, by go_num, by omega, by omega, S3, P2⟩
      refine AllReadyH.cons (o := { dst := some 35, op := Go.Op.load 33 (Go.Operand.tmp 34), type := 33, pos := "zsortanyfunc.go:331", after := #[{ on := 18, ground := Go.Ground.data }], guard := none }) rfl (fun K hK => ?_) AllReadyH.nil
      rw [if_pos (show Region.wanted _ _ = true from rfl)]
      refine wp_load_mid 33 (.tmp 34) rfl blk (off + (a + i) * 5) rfl [.int .i64 x.1.rid, .int .i64 x.1.nid, .slice x.1.la x.1.ln x.1.lc, .string x.1.key, .slice x.1.ra x.1.rn x.1.rc] _ hcx Tryd.underlying33 rfl (by kernel_rfl) ?_
      refine hK.out _ _ ?_ (fun hHeld => ?_)
      · trivial
      clear hK K
      try simp only [Act.put, List.setIfInBounds_toArray, List.set_cons_zero, List.set_cons_succ]
      refine wpAnyH_ready (rs := [13]) (by kernel_rfl) (by simp) ?_
      refine AllReadyH.cons (o := { dst := some 29, op := Go.Op.load 33 (Go.Operand.tmp 28), type := 33, pos := "zsortanyfunc.go:331", after := #[{ on := 12, ground := Go.Ground.data }], guard := none }) rfl (fun K hK => ?_) AllReadyH.nil
      rw [if_pos (show Region.wanted _ _ = true from rfl)]
      refine wp_load_mid 33 (.tmp 28) rfl blk (off + (b + i) * 5) rfl [.int .i64 y.1.rid, .int .i64 y.1.nid, .slice y.1.la y.1.ln y.1.lc, .string y.1.key, .slice y.1.ra y.1.rn y.1.rc] _ hcy Tryd.underlying33 rfl (by kernel_rfl) ?_
      refine hK.out _ _ ?_ (fun hHeld => ?_)
      · trivial
      clear hK K
      try simp only [Act.put, List.setIfInBounds_toArray, List.set_cons_zero, List.set_cons_succ]
      refine wpAnyH_take (i := 20) (oi := { dst := some 36, op := Go.Op.indexAddr 36 (Go.Operand.tmp 16) (Go.Operand.tmp 19), type := 0, pos := "zsortanyfunc.go:331", after := #[{ on := 0, ground := Go.Ground.data }, { on := 3, ground := Go.Ground.data }, { on := 0, ground := Go.Ground.phase }, { on := 1, ground := Go.Ground.phase }, { on := 2, ground := Go.Ground.phase }, { on := 3, ground := Go.Ground.phase }, { on := 4, ground := Go.Ground.textOnly Go.Departure.lateStores }, { on := 5, ground := Go.Ground.textOnly Go.Departure.lateStores }, { on := 6, ground := Go.Ground.textOnly Go.Departure.lateStores }, { on := 7, ground := Go.Ground.textOnly Go.Departure.lateStores }, { on := 8, ground := Go.Ground.phase }, { on := 9, ground := Go.Ground.phase }, { on := 10, ground := Go.Ground.phase }, { on := 11, ground := Go.Ground.phase }, { on := 12, ground := Go.Ground.phase }, { on := 13, ground := Go.Ground.phase }, { on := 14, ground := Go.Ground.textOnly Go.Departure.lateStores }, { on := 15, ground := Go.Ground.textOnly Go.Departure.lateStores }, { on := 16, ground := Go.Ground.textOnly Go.Departure.lateStores }, { on := 17, ground := Go.Ground.textOnly Go.Departure.lateStores }, { on := 18, ground := Go.Ground.textOnly Go.Departure.lateStoresUnsure }, { on := 19, ground := Go.Ground.phase }], guard := none }) (v := ?_) rfl (by kernel_rfl) (by kernel_rfl) (by kernel_rfl) (fun _ _ _ h => h) (Or.inl ⟨by rfl, ?_⟩) (by assumption) ?_
      rotate_left
      · (intro w hSw; (try dsimp only at hSw); go_simp; try with_reducible rfl)
      rotate_left
      try simp only [Act.put, List.setIfInBounds_toArray, List.set_cons_zero, List.set_cons_succ]
      refine wpAnyH_ready (rs := [21]) (by kernel_rfl) (by simp) ?_
      refine AllReadyH.cons (o := { dst := none, op := Go.Op.store 33 (Go.Operand.tmp 36) (Go.Operand.tmp 29), type := 0, pos := "zsortanyfunc.go:331", after := #[{ on := 20, ground := Go.Ground.data }, { on := 13, ground := Go.Ground.data }, { on := 0, ground := Go.Ground.phase }, { on := 1, ground := Go.Ground.phase }, { on := 2, ground := Go.Ground.phase }, { on := 3, ground := Go.Ground.phase }, { on := 4, ground := Go.Ground.textOnly Go.Departure.lateStores }, { on := 5, ground := Go.Ground.textOnly Go.Departure.lateStores }, { on := 6, ground := Go.Ground.textOnly Go.Departure.lateStores }, { on := 7, ground := Go.Ground.textOnly Go.Departure.lateStores }, { on := 8, ground := Go.Ground.phase }, { on := 9, ground := Go.Ground.phase }, { on := 10, ground := Go.Ground.phase }, { on := 11, ground := Go.Ground.phase }, { on := 12, ground := Go.Ground.phase }, { on := 13, ground := Go.Ground.phase }, { on := 14, ground := Go.Ground.textOnly Go.Departure.lateStores }, { on := 15, ground := Go.Ground.textOnly Go.Departure.lateStores }, { on := 16, ground := Go.Ground.textOnly Go.Departure.lateStores }, { on := 17, ground := Go.Ground.textOnly Go.Departure.lateStores }, { on := 18, ground := Go.Ground.textOnly Go.Departure.lateStoresUnsure }, { on := 19, ground := Go.Ground.phase }], guard := none }) rfl (fun K hK => ?_) AllReadyH.nil
      rw [if_pos (show Region.wanted _ _ = true from rfl)]
      refine wp_store_mid 33 (.tmp 36) (.tmp 29) rfl blk (off + (a + i) * 5) #[.int .i64 y.1.rid, .int .i64 y.1.nid, .slice y.1.la y.1.ln y.1.lc, .string y.1.key, .slice y.1.ra y.1.rn y.1.rc] rfl rfl hr1.out (by kernel_rfl) (by simp [Value.oneCell']) ?_
      rw [hwS]
      refine hK.out _ _ ?_ (fun hHeld => ?_)
      · trivial
      clear hK K
      try simp only [Act.put, List.setIfInBounds_toArray, List.set_cons_zero, List.set_cons_succ]
      refine wpAnyH_take (i := 22) (oi := { dst := some 37, op := Go.Op.indexAddr 36 (Go.Operand.tmp 20) (Go.Operand.tmp 23), type := 0, pos := "zsortanyfunc.go:331", after := #[{ on := 4, ground := Go.Ground.data }, { on := 7, ground := Go.Ground.data }, { on := 0, ground := Go.Ground.phase }, { on := 1, ground := Go.Ground.phase }, { on := 2, ground := Go.Ground.phase }, { on := 3, ground := Go.Ground.phase }, { on := 4, ground := Go.Ground.phase }, { on := 5, ground := Go.Ground.phase }, { on := 6, ground := Go.Ground.phase }, { on := 7, ground := Go.Ground.phase }, { on := 8, ground := Go.Ground.phase }, { on := 9, ground := Go.Ground.phase }, { on := 10, ground := Go.Ground.phase }, { on := 11, ground := Go.Ground.phase }, { on := 12, ground := Go.Ground.phase }, { on := 13, ground := Go.Ground.phase }, { on := 14, ground := Go.Ground.phase }, { on := 15, ground := Go.Ground.phase }, { on := 16, ground := Go.Ground.phase }, { on := 17, ground := Go.Ground.phase }, { on := 18, ground := Go.Ground.phase }, { on := 19, ground := Go.Ground.phase }, { on := 20, ground := Go.Ground.phase }, { on := 21, ground := Go.Ground.phase }], guard := none }) (v := ?_) rfl (by kernel_rfl) (by kernel_rfl) (by kernel_rfl) (fun _ _ _ h => h) (Or.inl ⟨by rfl, ?_⟩) (by assumption) ?_
      rotate_left
      · (intro w hSw; (try dsimp only at hSw); go_simp; try with_reducible rfl)
      rotate_left
      try simp only [Act.put, List.setIfInBounds_toArray, List.set_cons_zero, List.set_cons_succ]
      refine wpAnyH_ready (rs := [23]) (by kernel_rfl) (by simp) ?_
      refine AllReadyH.cons (o := { dst := none, op := Go.Op.store 33 (Go.Operand.tmp 37) (Go.Operand.tmp 35), type := 0, pos := "zsortanyfunc.go:331", after := #[{ on := 22, ground := Go.Ground.data }, { on := 19, ground := Go.Ground.data }, { on := 21, ground := Go.Ground.chain }, { on := 0, ground := Go.Ground.phase }, { on := 1, ground := Go.Ground.phase }, { on := 2, ground := Go.Ground.phase }, { on := 3, ground := Go.Ground.phase }, { on := 4, ground := Go.Ground.phase }, { on := 5, ground := Go.Ground.phase }, { on := 6, ground := Go.Ground.phase }, { on := 7, ground := Go.Ground.phase }, { on := 8, ground := Go.Ground.phase }, { on := 9, ground := Go.Ground.phase }, { on := 10, ground := Go.Ground.phase }, { on := 11, ground := Go.Ground.phase }, { on := 12, ground := Go.Ground.phase }, { on := 13, ground := Go.Ground.phase }, { on := 14, ground := Go.Ground.phase }, { on := 15, ground := Go.Ground.phase }, { on := 16, ground := Go.Ground.phase }, { on := 17, ground := Go.Ground.phase }, { on := 18, ground := Go.Ground.phase }, { on := 19, ground := Go.Ground.phase }, { on := 20, ground := Go.Ground.phase }, { on := 21, ground := Go.Ground.phase }], guard := none }) rfl (fun K hK => ?_) AllReadyH.nil
      rw [if_pos (show Region.wanted _ _ = true from rfl)]
      refine wp_store_mid 33 (.tmp 37) (.tmp 35) rfl blk (off + (b + i) * 5) #[.int .i64 x.1.rid, .int .i64 x.1.nid, .slice x.1.la x.1.ln x.1.lc, .string x.1.key, .slice x.1.ra x.1.rn x.1.rc] rfl rfl hr3.out (by kernel_rfl) (by simp [Value.oneCell']) ?_
      refine hK.out _ _ ?_ (fun hHeld => ?_)
      · trivial
      clear hK K
      try simp only [Act.put, List.setIfInBounds_toArray, List.set_cons_zero, List.set_cons_succ]
      refine wpAnyH_done (by kernel_rfl) ?_ _
      refine NoPanic.normal ?_
      clear hr1 hr3 hcx hcy hwS
      generalize wS.setCells blk (off + (b + i) * 5) (#[.int .i64 x.1.rid, .int .i64 x.1.nid, .slice x.1.la x.1.ln x.1.lc, .string x.1.key, .slice x.1.ra x.1.rn x.1.rc] : Array Value).toList = w3 at S3 ⊢
      clear e1 e2 r1 r2
      go_wp2
      go_roundg (m - (i + 1))
      case measure => omega
      case rel => exact ⟨i + 1, _, by go_num, by omega, by omega, S3, P2⟩
    · have hltz : ¬ (i : Int) < (m : Int) := by omega
      go_wp2
      go_end0
      obtain rfl : i = m := by omega
      exact ⟨rfl, dk, S1.out, P1.out⟩
end Go.Proofs.YtdpllfgnppeneaaDoor
namespace Go.Proofs.YtdpllfgnppeneaaDoor
open Go.RowKit Srt Col
set_option linter.unusedVariables false
set_option linter.unusedSimpArgs false
theorem swapRange_at {fv : Value} {blk off cap n : Nat} {d : Nat → Tag Hv} {w0 w : World} {A B M : Int} (a b m : Nat) (hA : A = (a : Int)) (hB : B = (b : Int)) (hM : M = (m : Int))
    (S : Hid (SK (fun p : Tag Hv => encH p.1) 5 w0 blk off n d w)) (hab : a + m ≤ b) (hb : b + m ≤ n) (hsz : n < 4611686018427387904) :
    Calls Tryd.prog 128 #[.slice (some ⟨blk, off, none⟩) n cap, .int .i64 A, .int .i64 B, .int .i64 M, fv] w fun e w' => e = .returned (.tuple #[]) ∧
      ∃ d', SK (fun p : Tag Hv => encH p.1) 5 w0 blk off n d' w' ∧ Swapped d d' a b m := by
  subst hA hB hM
  exact swapRange_any fv blk off cap n a b m d w0 w S.out hab hb hsz

set_option maxHeartbeats 16000000 in
set_option maxRecDepth 1000000 in
theorem rotate_any (fv : Value) (blk off cap n a m b : Nat) (d : Nat → Tag Hv) (w0 w : World)
    (S : SK (fun p : Tag Hv => encH p.1) 5 w0 blk off n d w) (h1 : a < m) (h2 : m < b) (hb : b ≤ n) (hsz : n < 4611686018427387904) :
    Calls Tryd.prog 124 #[.slice (some ⟨blk, off, none⟩) n cap, .int .i64 a, .int .i64 m, .int .i64 b, fv] w fun e w' => e = .returned (.tuple #[]) ∧
      ∃ d', SK (fun p : Tag Hv => encH p.1) 5 w0 blk off n d' w' ∧ Rotated d d' a m b := by
  have S0 := Lib.hid S; clear S
  go_enter Tryd.func124, Tryd.ntmps124
  go_wp2
  go_loopg [10, 11] (b - a) (fun g1 vi vj wr => ∃ (i j : Nat) (dk : Nat → Tag Hv), vi = .int .i64 i ∧ vj = .int .i64 j ∧ 1 ≤ i ∧ 1 ≤ j ∧ a + i ≤ m ∧ m + j ≤ b ∧ i + j ≤ g1 ∧ Hid (SK (fun p : Tag Hv => encH p.1) 5 w0 blk off n dk wr) ∧
    Hid (∀ d2, Rotated dk d2 (m - i) m (m + j) → Rotated d d2 a m b))
  case atStart => exact ⟨m - a, b - m, d, by congr 1; omega, by congr 1; omega, by omega, by omega, by omega, by omega, by omega, S0, by
    intro d2 h
    rw [show m - (m - a) = a by omega, show m + (b - m) = b by omega] at h
    exact h⟩
  case round =>
    clear S0
    obtain ⟨i, j, dk, rfl, rfl, hi1, hj1, him, hjm, hg1, S1, P1⟩ := hrel
    by_cases heq : i = j
    · subst heq
      go_wp2_with fail
      refine (swapRange_at (m - i) m i (by omega) rfl rfl S1 (by omega) (by omega) hsz).mono ?_
      rintro e w' ⟨rfl, d', S2, P2⟩
      go_wp2
      go_end0
      exact ⟨rfl, d', S2, P1.out _ (rot_eq P2 (by omega))⟩
    · have hne : ((i : Int) != (j : Int)) = true := by rw [bne_iff_ne]; omega
      by_cases hgt : j < i
      · have hgtz : (j : Int) < (i : Int) := by omega
        go_wp2_with fail
        refine (swapRange_at (m - i) m j (by omega) rfl rfl S1 (by omega) (by omega) hsz).mono ?_
        rintro e w' ⟨rfl, d', S2, P2⟩
        have S2' := Lib.hid S2; clear S2
        have P2' := Lib.hid P2; clear P2
        clear S1
        go_wp2
        go_roundg (i - j + j)
        case measure => omega
        case rel => exact ⟨i - j, j, d', by congr 1; omega, rfl, by omega, by omega, by omega, by omega, by omega, S2', fun d2 h => P1.out _ (rot_gt (by omega) hgt P2'.out h)⟩
      · have hgtz : ¬ (j : Int) < (i : Int) := by omega
        go_wp2_with fail
        refine (swapRange_at (m - i) (m + j - i) i (by omega) (by omega) rfl S1 (by omega) (by omega) hsz).mono ?_
        rintro e w' ⟨rfl, d', S2, P2⟩
        have S2' := Lib.hid S2; clear S2
        have P2' := Lib.hid P2; clear P2
        clear S1
        go_wp2
        go_roundg (i + (j - i))
        case measure => omega
        case rel => exact ⟨i, j - i, d', rfl, by congr 1; omega, by omega, by omega, by omega, by omega, by omega, S2', fun d2 h => P1.out _ (rot_lt (by omega) (by omega) P2'.out h)⟩
theorem rotate_at {fv : Value} {blk off cap n : Nat} {d : Nat → Tag Hv} {w0 w : World} {A M B : Int} (a m b : Nat) (hA : A = (a : Int)) (hM : M = (m : Int)) (hB : B = (b : Int))
    (S : Hid (SK (fun p : Tag Hv => encH p.1) 5 w0 blk off n d w)) (h1 : a < m) (h2 : m < b) (hb : b ≤ n) (hsz : n < 4611686018427387904) :
    Calls Tryd.prog 124 #[.slice (some ⟨blk, off, none⟩) n cap, .int .i64 A, .int .i64 M, .int .i64 B, fv] w fun e w' => e = .returned (.tuple #[]) ∧
      ∃ d', SK (fun p : Tag Hv => encH p.1) 5 w0 blk off n d' w' ∧ Rotated d d' a m b := by
  subst hA hM hB
  exact rotate_any fv blk off cap n a m b d w0 w S.out h1 h2 hb hsz
end Go.Proofs.YtdpllfgnppeneaaDoor
