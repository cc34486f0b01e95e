/-
  THE STABLE SORT OF A ROW OF LINES, of any length (SortStable, turned).
-/
import Derived.Test.YtdpllfgnppeneaaDoorSortGenLH
import Derived.Test.YtdpllfgnppeneaaDoorG01
namespace Go.Proofs.YtdpllfgnppeneaaDoor
open Go.RowKit Srt Col
set_option linter.unusedVariables false
set_option linter.unusedSimpArgs false

theorem SymIH.mono {c : Hv → Hv → Int} {Q : Hv → Prop} {g : Nat} {cb : Array Value} {blk off cap n N N' : Nat} {w0 : World} (h : SymIH c Q g cb blk off cap n N w0) (hN : N' ≤ N) : SymIH c Q g cb blk off cap n N' w0 :=
  fun a m b d w h1 h2 h3 h4 => h a m b d w h1 h2 h3 (by omega)
theorem sym_all_sizes (c : Hv → Hv → Int) (hc : IsCmp c) (Q : Hv → Prop) (g : Nat) (cb : Array Value) (blk off cap n : Nat) (w0 : World)
    (eg : ∀ args w, (callFunc g args).run Tryd.prog w = .ok (.enter g args) w) (hcmp : CmpOKH g cb c Q w0 blk off n) (hsz : n < 4611686018427387904) : ∀ N, SymIH c Q g cb blk off cap n N w0
  | 0 => fun a m b d w h1 h2 h3 h4 => by omega
  | N + 1 => fun a m b d w h1 h2 h3 h4 S hM hQ A M B hA hMm hB => by
    subst hA hMm hB
    have ih := sym_all_sizes c hc Q g cb blk off cap n w0 eg hcmp hsz N
    by_cases e1 : m = a + 1
    · exact sym_first c hc Q g cb blk off cap n a m b d w0 w eg hcmp hQ.out S.out hM e1 h2 h3 hsz
    · by_cases e2 : b = m + 1
      · exact sym_last c hc Q g cb blk off cap n a m b d w0 w eg hcmp hQ.out S.out hM (by omega) e2 h3 hsz
      · by_cases e3 : (a + b) / 2 < m
        · exact sym_gt c hc Q g cb blk off cap n a m b _ d w0 w eg hcmp hQ.out S.out hM (by omega) (by omega) h3 hsz rfl e3 (ih.mono (by omega))
        · exact sym_le c hc Q g cb blk off cap n a m b _ d w0 w eg hcmp hQ.out S.out hM (by omega) (by omega) h3 hsz rfl (by omega) (ih.mono (by omega))
theorem ins_at {c : Hv → Hv → Int} (hc : IsCmp c) {Q : Hv → Prop} {g : Nat} {cb : Array Value} {blk off cap n : Nat} {d : Nat → Tag Hv} {w0 w : World} {A B : Int} (a b : Nat) (hA : A = (a : Int)) (hB : B = (b : Int))
    (eg : ∀ args w, (callFunc g args).run Tryd.prog w = .ok (.enter g args) w) (hcmp : Hid (CmpOKH g cb c Q w0 blk off n)) (hQ : Hid (∀ j, j < n → Q (d j).1)) (S : Hid (SK (fun p : Tag Hv => encH p.1) 5 w0 blk off n d w))
    (hab : a ≤ b) (hb : b ≤ n) (hsz : n < 4611686018427387904) (hy : ∀ p q, a ≤ p → p < q → q < b → (d p).2 < (d q).2) :
    Calls Tryd.prog 112 #[.slice (some ⟨blk, off, none⟩) n cap, .int .i64 A, .int .i64 B, .func (.func g) #[] cb] w fun e w' => e = .returned (.tuple #[]) ∧
      ∃ d', SK (fun p : Tag Hv => encH p.1) 5 w0 blk off n d' w' ∧ PermOn a b d d' ∧ SortedOn c d' a b := by
  subst hA hB
  exact insH_any c hc Q g cb blk off cap n a b d w0 w eg hcmp.out hQ.out S.out hab hb hsz hy

set_option maxHeartbeats 4000000 in
set_option maxRecDepth 1000000 in
theorem stable_any (c : Hv → Hv → Int) (hc : IsCmp c) (Q : Hv → Prop) (g : Nat) (cb : Array Value) (blk off cap n : Nat) (d0 : Nat → Tag Hv) (w0 w : World)
    (eg : ∀ args w, (callFunc g args).run Tryd.prog w = .ok (.enter g args) w) (hcmp : CmpOKH g cb c Q w0 blk off n) (hQ : ∀ j, j < n → Q (d0 j).1) (S : SK (fun p : Tag Hv => encH p.1) 5 w0 blk off n d0 w)
    (hsz : n ≤ 140737488355328) (h0 : ∀ k, (d0 k).2 = k) :
    Calls Tryd.prog 93 #[.slice (some ⟨blk, off, none⟩) n cap, .int .i64 n, .func (.func g) #[] cb] w fun e w' => e = .returned (.tuple #[]) ∧
      ∃ d', SK (fun p : Tag Hv => encH p.1) 5 w0 blk off n d' w' ∧ PermOn 0 n d0 d' ∧ SortedOn c d' 0 n := by
  have IH := Lib.hid (fun N => sym_all_sizes c hc Q g cb blk off cap n w0 eg hcmp (by omega) N)
  have HC := Lib.hid hcmp; clear hcmp
  have S0 := Lib.hid S; clear S
  have HQ := Lib.hid hQ; clear hQ
  have H0 := Lib.hid h0; clear h0
  go_enter Tryd.func93, Tryd.ntmps93
  go_wp2_with fail
  go_loopg [7, 8] n (fun g1 va vb wr => ∃ (A b q : Nat) (dk : Nat → Tag Hv), va = .int .i64 A ∧ vb = .int .i64 b ∧ b ≤ A + 20 ∧ A + 20 ≤ b ∧ A ≤ n ∧ n - A ≤ g1 ∧ Hid (A = q * 20) ∧ Hid (SK (fun p : Tag Hv => encH p.1) 5 w0 blk off n dk wr) ∧
    Hid (PermOn 0 n d0 dk) ∧ Hid (Done c dk 20 q) ∧ Hid (∀ k, A ≤ k → dk k = d0 k))
  case atStart => exact ⟨0, 20, 0, d0, rfl, rfl, by omega, by omega, by omega, by omega, (show 0 = 0 * 20 by omega), S0, PermOn.refl _ _ _, fun p hp => by omega, fun _ _ => rfl⟩
  case round =>
    clear S0
    obtain ⟨A, b, q, dk, rfl, rfl, hb1, hb2, hAn, hg1, HA, S1, P1, D1, E1⟩ := hrel
    have HQ1 := Lib.hid (perm_allH P1.out (Nat.le_refl _) HQ.out)
    by_cases hlt : b ≤ n
    · have hltz : (b : Int) ≤ (n : Int) := by omega
      have HY := Lib.hid (fun p q' (h1 : A ≤ p) (h2 : p < q') (_ : q' < b) => (by rw [E1.out p h1, E1.out q' (by omega), H0.out, H0.out]; exact h2 : (dk p).2 < (dk q').2))
      go_wp2_with fail
      refine (ins_at hc A b rfl rfl eg HC HQ1 S1 (by omega) (by omega) (by omega) HY.out).mono ?_
      rintro e w1 ⟨rfl, d', S2, P2, T2⟩
      have S2' := Lib.hid S2; clear S2
      have HBE : Hid (b = A + 20) := show b = A + 20 by omega
      have N2 := Lib.hid (blocks_next H0.out D1.out HA.out E1.out (by rw [← HBE.out]; exact P2) (by rw [← HBE.out]; exact T2))
      have P3 : Hid (PermOn 0 n d0 d') := P1.out.trans (P2.wider (Nat.zero_le _) hlt (by omega))
      clear P2 T2 HY S1
      go_wp2
      go_roundg (n - b)
      case measure => omega
      case rel => exact ⟨b, b + 20, q + 1, d', rfl, by first | rfl | go_num, by omega, by omega, by omega, by omega, (show b = (q + 1) * 20 by have := HA.out; omega), S2', P3, N2.out.1, fun k hk => N2.out.2 k (by omega)⟩
    · have hltz : ¬ (b : Int) ≤ (n : Int) := by omega
      have HY := Lib.hid (fun p q' (h1 : A ≤ p) (h2 : p < q') (_ : q' < n) => (by rw [E1.out p h1, E1.out q' (by omega), H0.out, H0.out]; exact h2 : (dk p).2 < (dk q').2))
      go_wp2_with fail
      refine (ins_at hc A n rfl rfl eg HC HQ1 S1 hAn (Nat.le_refl _) (by omega) HY.out).mono ?_
      rintro e w1 ⟨rfl, d', S2, P2, T2⟩
      have S2' := Lib.hid S2; clear S2
      have N2 : Hid (Todo c d' 20 n 0) := blocks_last H0.out D1.out HA.out hAn (by omega) E1.out P2 T2
      have P3 : Hid (PermOn 0 n d0 d') := P1.out.trans (P2.wider (Nat.zero_le _) (Nat.le_refl _) hAn)
      clear P2 T2 HY S1 P1 D1 E1 HA HQ1
      go_wp2_with fail
      go_loopg [6, 7, 8, 9] n (fun g1 vB v7 v8 v9 wr => ∃ (B : Nat) (dk : Nat → Tag Hv), vB = .int .i64 B ∧ 1 ≤ B ∧ n - B ≤ g1 ∧ Hid (SK (fun p : Tag Hv => encH p.1) 5 w0 blk off n dk wr) ∧ Hid (PermOn 0 n d0 dk) ∧ Hid (Todo c dk B n 0))
      case atStart => exact ⟨20, d', rfl, by omega, by omega, S2', P3, N2⟩
      case round =>
        clear S2' P3 N2
        obtain ⟨B, dk, rfl, hB1, hg1, S1, P1, T1⟩ := hrel
        by_cases hlt : B < n
        · have hltz : (B : Int) < (n : Int) := by omega
          go_wp2_with fail
          go_loopg [7, 8] n (fun g2 va vb wr => ∃ (A b q : Nat) (dk : Nat → Tag Hv), va = .int .i64 A ∧ vb = .int .i64 b ∧ b ≤ A + 2 * B ∧ A + 2 * B ≤ b ∧ A ≤ n ∧ n - A ≤ g2 ∧ Hid (A = q * (2 * B)) ∧ Hid (SK (fun p : Tag Hv => encH p.1) 5 w0 blk off n dk wr) ∧
            Hid (PermOn 0 n d0 dk) ∧ Hid (Done c dk (2 * B) q) ∧ Hid (Todo c dk B n (2 * q)))
          case atStart => exact ⟨0, 2 * B, 0, dk, rfl, by first | rfl | go_num | (congr 1; omega), by omega, by omega, by omega, by omega, (show 0 = 0 * (2 * B) by omega), S1, P1, fun p hp => by omega, T1⟩
          case round =>
            clear S1 P1 T1
            obtain ⟨A, b, q, dk, rfl, rfl, hb1, hb2, hAn, hg2, HA, S1, P1, D1, T1⟩ := hrel
            have HQ1 := Lib.hid (perm_allH P1.out (Nat.le_refl _) HQ.out)
            by_cases hbn : b ≤ n
            · have hltz : (b : Int) ≤ (n : Int) := by omega
              have HBE : Hid (b = A + 2 * B) := show b = A + 2 * B by omega
              have PM := Lib.hid (pair_merge T1.out HA.out hB1 (by omega))
              have HM : Hid (Merge c dk A (A + B) b) := by have := PM.out.1.merge PM.out.2; rw [← HBE.out] at this; exact this
              go_wp2_with fail
              refine (IH.out (n + 1) A (A + B) b dk _ (by omega) (by omega) hbn (by omega) S1 HM.out HQ1 _ _ _ rfl (by omega) rfl).mono ?_
              rintro e w1 ⟨rfl, d', S2, M2⟩
              have S2' := Lib.hid S2; clear S2
              have N2 := Lib.hid (pair_next D1.out T1.out HA.out hB1 (by omega) (by rw [← HBE.out]; exact M2))
              have P3 : Hid (PermOn 0 n d0 d') := P1.out.trans (M2.perm.wider (Nat.zero_le _) hbn (by omega))
              have HA2 : Hid (b = (q + 1) * (2 * B)) := by
                show b = (q + 1) * (2 * B)
                rw [Nat.succ_mul, ← HA.out]
                exact HBE.out
              clear M2 PM HM S1 P1 D1 T1
              go_wp2
              go_roundg (n - b)
              case measure => omega
              case rel => exact ⟨b, b + 2 * B, q + 1, d', rfl, by first | rfl | go_num | (congr 1; omega), by omega, by omega, by omega, by omega, HA2, S2', P3, N2.out.1, N2.out.2⟩
            · have hltz : ¬ (b : Int) ≤ (n : Int) := by omega
              by_cases hm : A + B < n
              · have hmz : (A : Int) + (B : Int) < (n : Int) := by omega
                have LM := Lib.hid (last_merge T1.out HA.out hm (by omega))
                have HM : Hid (Merge c dk A (A + B) n) := LM.out.1.merge LM.out.2
                go_wp2_with fail
                refine (IH.out (n + 1) A (A + B) n dk _ (by omega) hm (Nat.le_refl _) (by omega) S1 HM.out HQ1 _ _ _ rfl (by omega) rfl).mono ?_
                rintro e w1 ⟨rfl, d', S2, M2⟩
                have S2' := Lib.hid S2; clear S2
                have N2 : Hid (Todo c d' (2 * B) n 0) := last_next D1.out T1.out HA.out hm (by omega) M2
                have P3 : Hid (PermOn 0 n d0 d') := P1.out.trans (M2.perm.wider (Nat.zero_le _) (Nat.le_refl _) hAn)
                clear M2 LM HM S1 P1 D1 T1
                go_wp2
                go_roundg (n - 2 * B)
                case measure => omega
                case rel => exact ⟨2 * B, d', by first | rfl | go_num | (congr 1; omega), by omega, by omega, S2', P3, N2⟩
              · have hmz : ¬ (A : Int) + (B : Int) < (n : Int) := by omega
                have N2 : Hid (Todo c dk (2 * B) n 0) := last_skip D1.out T1.out HA.out hAn (by omega)
                go_wp2
                go_roundg (n - 2 * B)
                case measure => omega
                case rel => exact ⟨2 * B, dk, by first | rfl | go_num | (congr 1; omega), by omega, by omega, S1, P1, N2⟩
        · have hltz : ¬ (B : Int) < (n : Int) := by omega
          go_wp2
          go_end0
          exact ⟨rfl, dk, S1.out, P1.out, todo_all T1.out (by omega)⟩
end Go.Proofs.YtdpllfgnppeneaaDoor
