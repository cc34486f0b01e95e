import Derived.Test.YtplchlkdijjamaaDoorSortIns
namespace Go.Proofs.YtplchlkdijjamaaDoor
open Go.RowKit Srt Col
set_option linter.unusedVariables false
set_option linter.unusedSimpArgs false

set_option maxHeartbeats 16000000 in
set_option maxRecDepth 1000000 in
theorem swapRange_any (fv : Value) (blk off cap n a b m : Nat) (d : Nat → Tag Int) (w0 w : World)
    (S : SS encS w0 blk off n d w) (hab : a + m ≤ b) (hb : b + m ≤ n) (hsz : n < 4611686018427387904) :
    Calls Tryd.prog 47 #[.slice (some ⟨blk, off, none⟩) n cap, .int .i64 a, .int .i64 b, .int .i64 m, fv] w fun e w' => e = .returned (.tuple #[]) ∧
      ∃ d', SS encS w0 blk off n d' w' ∧ Swapped d d' a b m := by
  have S0 := Lib.hid S; clear S
  go_enter Tryd.func47, Tryd.ntmps47
  go_wp2
  go_loopg [10] m (fun g1 vi wr => ∃ (i : Nat) (dk : Nat → Tag Int), vi = .int .i64 i ∧ i ≤ m ∧ m - i ≤ g1 ∧ Hid (SS encS w0 blk off n dk wr) ∧ Hid (Swapped d dk a b i))
  case atStart => exact ⟨0, d, rfl, by omega, by omega, S0, swapped_zero _ _ _⟩
  case round =>
    clear S0
    obtain ⟨i, dk, rfl, hi, hg1, S1, P1⟩ := hrel
    by_cases hlt : i < m
    · have hltz : (i : Int) < (m : Int) := by omega
      have P2 : Hid (Swapped d (swpF dk (a + i) (b + i)) a b (i + 1)) := swapped_step P1.out (by omega)
      obtain ⟨x, hx⟩ : ∃ x, Hid (dk (a + i) = x) := ⟨_, rfl⟩
      obtain ⟨y, hy⟩ : ∃ y, Hid (dk (b + i) = y) := ⟨_, rfl⟩
      have c1 : wr.cell? ⟨blk, off + (a + i), none⟩ = some (.int .i64 x.1) := by have := S1.out.cells (a + i) (by omega); rw [hx.out] at this; exact this
      have c2 : wr.cell? ⟨blk, off + (b + i), none⟩ = some (.int .i64 y.1) := by have := S1.out.cells (b + i) (by omega); rw [hy.out] at this; exact this
      have f1 := S1.out.free (a + i) (by omega)
      have f2 := S1.out.free (b + i) (by omega)
      obtain ⟨u, c3⟩ := S1.out.c2 (i := a + i) (j := b + i) (by omega) (by omega) (.int .i64 y.1)
      have S3 : Hid (SS encS w0 blk off n (swpF dk (a + i) (b + i)) ((wr.setCell ⟨blk, off + (a + i), none⟩ (.int .i64 y.1)).setCell ⟨blk, off + (b + i), none⟩ (.int .i64 x.1)).drew) := by
        have := S1.out.swapped (i := a + i) (j := b + i) (by omega) (by omega)
        rw [hx.out, hy.out] at this
        exact this
      clear S1 P1
      have e1 : ((a : Int) + (i : Int)).toNat = a + i := by omega
      have e2 : ((b : Int) + (i : Int)).toNat = b + i := by omega
      have p1 : (0 : Int) ≤ (a : Int) + (i : Int) := by omega
      have p2 : (0 : Int) ≤ (b : Int) + (i : Int) := by omega
      have b1 : (a : Int) + (i : Int) < (n : Int) := by omega
      have b2 : (b : Int) + (i : Int) < (n : Int) := by omega
      have r1 : IntKind.i64.wrap ((a : Int) + (i : Int)) = (a : Int) + (i : Int) := by rw [IntKind.wrap_i64]; omega
      have r2 : IntKind.i64.wrap ((b : Int) + (i : Int)) = (b : Int) + (i : Int) := by rw [IntKind.wrap_i64]; omega
      go_wp2_with fail
      go_region
      clear c1 c2 c3 f1 f2
      generalize ((wr.setCell ⟨blk, off + (a + i), none⟩ (.int .i64 y.1)).setCell ⟨blk, off + (b + i), none⟩ (.int .i64 x.1)).drew = w3 at S3 ⊢
      clear e1 e2 r1 r2
      go_wp2
      go_roundg (m - (i + 1))
      case measure => omega
      case rel => exact ⟨i + 1, _, by go_num, by omega, by omega, S3, P2⟩
    · have hltz : ¬ (i : Int) < (m : Int) := by omega
      go_wp2
      go_end0
      obtain rfl : i = m := by omega
      exact ⟨rfl, dk, S1.out, P1.out⟩
end Go.Proofs.YtplchlkdijjamaaDoor
namespace Go.Proofs.YtplchlkdijjamaaDoor
open Go.RowKit Srt Col
set_option linter.unusedVariables false
set_option linter.unusedSimpArgs false
theorem swapRange_at {fv : Value} {blk off cap n : Nat} {d : Nat → Tag Int} {w0 w : World} {A B M : Int} (a b m : Nat) (hA : A = (a : Int)) (hB : B = (b : Int)) (hM : M = (m : Int))
    (S : Hid (SS encS w0 blk off n d w)) (hab : a + m ≤ b) (hb : b + m ≤ n) (hsz : n < 4611686018427387904) :
    Calls Tryd.prog 47 #[.slice (some ⟨blk, off, none⟩) n cap, .int .i64 A, .int .i64 B, .int .i64 M, fv] w fun e w' => e = .returned (.tuple #[]) ∧
      ∃ d', SS encS w0 blk off n d' w' ∧ Swapped d d' a b m := by
  subst hA hB hM
  exact swapRange_any fv blk off cap n a b m d w0 w S.out hab hb hsz

set_option maxHeartbeats 16000000 in
set_option maxRecDepth 1000000 in
theorem rotate_any (fv : Value) (blk off cap n a m b : Nat) (d : Nat → Tag Int) (w0 w : World)
    (S : SS encS w0 blk off n d w) (h1 : a < m) (h2 : m < b) (hb : b ≤ n) (hsz : n < 4611686018427387904) :
    Calls Tryd.prog 46 #[.slice (some ⟨blk, off, none⟩) n cap, .int .i64 a, .int .i64 m, .int .i64 b, fv] w fun e w' => e = .returned (.tuple #[]) ∧
      ∃ d', SS encS w0 blk off n d' w' ∧ Rotated d d' a m b := by
  have S0 := Lib.hid S; clear S
  go_enter Tryd.func46, Tryd.ntmps46
  go_wp2
  go_loopg [10, 11] (b - a) (fun g1 vi vj wr => ∃ (i j : Nat) (dk : Nat → Tag Int), vi = .int .i64 i ∧ vj = .int .i64 j ∧ 1 ≤ i ∧ 1 ≤ j ∧ a + i ≤ m ∧ m + j ≤ b ∧ i + j ≤ g1 ∧ Hid (SS encS w0 blk off n dk wr) ∧
    Hid (∀ d2, Rotated dk d2 (m - i) m (m + j) → Rotated d d2 a m b))
  case atStart => exact ⟨m - a, b - m, d, by congr 1; omega, by congr 1; omega, by omega, by omega, by omega, by omega, by omega, S0, by
    intro d2 h
    rw [show m - (m - a) = a by omega, show m + (b - m) = b by omega] at h
    exact h⟩
  case round =>
    clear S0
    obtain ⟨i, j, dk, rfl, rfl, hi1, hj1, him, hjm, hg1, S1, P1⟩ := hrel
    by_cases heq : i = j
    · subst heq
      go_wp2_with fail
      refine (swapRange_at (m - i) m i (by omega) rfl rfl S1 (by omega) (by omega) hsz).mono ?_
      rintro e w' ⟨rfl, d', S2, P2⟩
      go_wp2
      go_end0
      exact ⟨rfl, d', S2, P1.out _ (rot_eq P2 (by omega))⟩
    · have hne : ((i : Int) != (j : Int)) = true := by rw [bne_iff_ne]; omega
      by_cases hgt : j < i
      · have hgtz : (j : Int) < (i : Int) := by omega
        go_wp2_with fail
        refine (swapRange_at (m - i) m j (by omega) rfl rfl S1 (by omega) (by omega) hsz).mono ?_
        rintro e w' ⟨rfl, d', S2, P2⟩
        have S2' := Lib.hid S2; clear S2
        have P2' := Lib.hid P2; clear P2
        clear S1
        go_wp2
        go_roundg (i - j + j)
        case measure => omega
        case rel => exact ⟨i - j, j, d', by congr 1; omega, rfl, by omega, by omega, by omega, by omega, by omega, S2', fun d2 h => P1.out _ (rot_gt (by omega) hgt P2'.out h)⟩
      · have hgtz : ¬ (j : Int) < (i : Int) := by omega
        go_wp2_with fail
        refine (swapRange_at (m - i) (m + j - i) i (by omega) (by omega) rfl S1 (by omega) (by omega) hsz).mono ?_
        rintro e w' ⟨rfl, d', S2, P2⟩
        have S2' := Lib.hid S2; clear S2
        have P2' := Lib.hid P2; clear P2
        clear S1
        go_wp2
        go_roundg (i + (j - i))
        case measure => omega
        case rel => exact ⟨i, j - i, d', rfl, by congr 1; omega, by omega, by omega, by omega, by omega, by omega, S2', fun d2 h => P1.out _ (rot_lt (by omega) (by omega) P2'.out h)⟩
theorem rotate_at {fv : Value} {blk off cap n : Nat} {d : Nat → Tag Int} {w0 w : World} {A M B : Int} (a m b : Nat) (hA : A = (a : Int)) (hM : M = (m : Int)) (hB : B = (b : Int))
    (S : Hid (SS encS w0 blk off n d w)) (h1 : a < m) (h2 : m < b) (hb : b ≤ n) (hsz : n < 4611686018427387904) :
    Calls Tryd.prog 46 #[.slice (some ⟨blk, off, none⟩) n cap, .int .i64 A, .int .i64 M, .int .i64 B, fv] w fun e w' => e = .returned (.tuple #[]) ∧
      ∃ d', SS encS w0 blk off n d' w' ∧ Rotated d d' a m b := by
  subst hA hM hB
  exact rotate_any fv blk off cap n a m b d w0 w S.out h1 h2 hb hsz
end Go.Proofs.YtplchlkdijjamaaDoor
