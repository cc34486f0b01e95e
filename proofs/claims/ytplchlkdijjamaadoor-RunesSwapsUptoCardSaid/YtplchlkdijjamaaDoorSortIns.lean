import Derived.Test.YtplchlkdijjamaaDoorProg
import Derived.Test.YtplchlkdijjamaaDoorPlainSort
import Derived.Test.YtplchlkdijjamaaDoorQuietB
import Derived.Deep.LoopGhost
import Derived.BigRegion
namespace Go.Proofs.YtplchlkdijjamaaDoor
open Go.RowKit Srt Col
set_option linter.unusedVariables false
set_option linter.unusedSimpArgs false

/-- How a tagged string lies in memory. -/
def encS (p : Tag Int) : Value := .int .i64 p.1
/-- What is asked of the comparison: in every world that the sort passes through, called with two of the strings, it answers c; it lays new blocks at most. -/
def CmpOKS (g : Nat) (cb : Array Value) (c : Int → Int → Int) (Q : Int → Prop) (w0 : World) (blk off n : Nat) : Prop :=
  ∀ (W : World) (d : Nat → Tag Int), SS encS w0 blk off n d W → ∀ x y : Int, Q x → Q y → ∀ p : BW W,
    Calls Tryd.prog g (#[.int .i64 x, .int .i64 y] ++ cb) p.at_ fun e w' => e = .returned (.int .i64 (c x y)) ∧ Below p.at_.heap.size p.at_ w'

theorem PermOn.all {α : Type} {Q : α → Prop} {a b n : Nat} {d d' : Nat → Tag α} (h : PermOn a b d d') (hb : b ≤ n) (hq : ∀ j, j < n → Q (d j).1) : ∀ j, j < n → Q (d' j).1 := by
  intro j hj
  by_cases e : a ≤ j ∧ j < b
  · obtain ⟨k, _, k2, ek⟩ := h.mem e.1 e.2
    rw [ek]; exact hq k (by omega)
  · rw [h.out j (by omega)]; exact hq j hj

set_option maxHeartbeats 16000000 in
set_option maxRecDepth 1000000 in
theorem ins_any (c : Int → Int → Int) (hc : IsCmp c) (Q : Int → Prop) (g : Nat) (cb : Array Value) (blk off cap n a b : Nat) (d : Nat → Tag Int) (w0 w : World)
    (eg : ∀ args w, (callFunc g args).run Tryd.prog w = .ok (.enter g args) w) (hcmp : CmpOKS g cb c Q w0 blk off n) (hQ : ∀ j, j < n → Q (d j).1) (S : SS encS w0 blk off n d w)
    (hab : a ≤ b) (hb : b ≤ n) (hsz : n < 4611686018427387904) (hy : ∀ p q, a ≤ p → p < q → q < b → (d p).2 < (d q).2) :
    Calls Tryd.prog 44 #[.slice (some ⟨blk, off, none⟩) n cap, .int .i64 a, .int .i64 b, .func (.func g) #[] cb] w fun e w' => e = .returned (.tuple #[]) ∧
      ∃ d', SS encS w0 blk off n d' w' ∧ PermOn a b d d' ∧ SortedOn c d' a b := by
  have HC := Lib.hid hcmp; clear hcmp
  have S0 := Lib.hid S; clear S
  have HQ := Lib.hid hQ; clear hQ
  have HY := Lib.hid hy; clear hy
  go_enter Tryd.func44, Tryd.ntmps44
  go_wp2
  go_loopg [8] (b - a) (fun g1 vi wr => ∃ (i : Nat) (dk : Nat → Tag Int), vi = .int .i64 i ∧ a < i ∧ i ≤ b + 1 ∧ b + 1 - i ≤ g1 + 1 ∧ Hid (SS encS w0 blk off n dk wr) ∧ Hid (PermOn a (min i b) d dk) ∧ Hid (SortedOn c dk a (min i b)))
  case atStart => exact ⟨a + 1, d, by go_num, by omega, by omega, by omega, S0, PermOn.refl _ _ _, fun p q h1 h2 h3 => by omega⟩
  case round =>
    clear S0
    obtain ⟨i, dk, rfl, hai, hib, hg1, S1, P1, T1⟩ := hrel
    by_cases hlt : i < b
    · have hltz : (i : Int) < (b : Int) := by omega
      have hmin : min i b = i := by omega
      rw [hmin] at P1 T1
      clear hmin
      have I0 : Hid (InsAt c dk dk a i i) := InsAt.start (PermOn.refl _ _ _) T1.out (fun p p1 p2 => by
        obtain ⟨k, k1, k2, ek⟩ := P1.out.mem p1 p2
        rw [ek, P1.out.out i (by omega)]
        exact HY.out k i k1 k2 hlt)
      have P2 : Hid (PermOn a (i + 1) d dk) := P1.out.wider (Nat.le_refl _) (by omega) (by omega)
      clear P1 T1
      go_wp2
      go_loopg [9] i (fun g2 vj wr2 => ∃ (j : Nat) (dj : Nat → Tag Int), vj = .int .i64 j ∧ a ≤ j ∧ j ≤ i ∧ j ≤ g2 ∧ Hid (SS encS w0 blk off n dj wr2) ∧ Hid (InsAt c dk dj a i j))
      case atStart => exact ⟨i, dk, rfl, by omega, Nat.le_refl _, Nat.le_refl _, S1, I0⟩
      case round =>
        clear S1 I0
        obtain ⟨j, dj, rfl, haj, hji, hg2, SJ, HI⟩ := hrel
        have HQJ : Hid (∀ k, k < n → Q (dj k).1) := (PermOn.all (P2.out.trans HI.out.perm) (by omega) HQ.out)
        have OUT : Hid ((j ≤ a ∨ ¬ c (dj j).1 (dj (j - 1)).1 < 0) → PermOn a (min (i + 1) b) d dj ∧ SortedOn c dj a (min (i + 1) b)) := fun hs => by
          rw [show min (i + 1) b = i + 1 by omega]
          exact ⟨P2.out.trans HI.out.perm, HI.out.stop hc hji hs⟩
        by_cases hja : a < j
        · have hjaz : (a : Int) < (j : Int) := by omega
          obtain ⟨jp, hjp⟩ : ∃ q, Hid (q + 1 = j) := ⟨j - 1, show _ = _ by omega⟩
          have hj1 : Hid (j - 1 = jp) := show _ = _ by have := hjp.out; omega
          have zjp : (j : Int) = (jp : Int) + 1 := by have := hjp.out; omega
          obtain ⟨x, hx⟩ : ∃ x, Hid (dj j = x) := ⟨_, rfl⟩
          obtain ⟨y, hy⟩ : ∃ y, Hid (dj jp = y) := ⟨_, rfl⟩
          have HOUT : Hid (¬ c x.1 y.1 < 0 → PermOn a (min (i + 1) b) d dj ∧ SortedOn c dj a (min (i + 1) b)) := fun h => OUT.out (Or.inr (by rw [hj1.out, hx.out, hy.out]; exact h))
          have HSTEP : Hid (c x.1 y.1 < 0 → InsAt c dk (swpF dj j jp) a i jp) := fun h => by
            have := HI.out.step hji hja (by rw [hj1.out, hx.out, hy.out]; exact h)
            rw [hj1.out] at this
            exact this
          clear OUT
          have l1 : ∀ p : BW wr, p.at_.cell? ⟨blk, off + j, none⟩ = some (.int .i64 x.1) := fun p => by
            have := (SJ.out.below p.bel).cells j (by omega); rw [hx.out] at this; exact this
          have l2 : ∀ p : BW wr, p.at_.cell? ⟨blk, off + jp, none⟩ = some (.int .i64 y.1) := fun p => by
            have := (SJ.out.below p.bel).cells jp (by omega); rw [hy.out] at this; exact this
          have hcall := HC.out wr dj SJ.out x.1 y.1 (by rw [← hx.out]; exact HQJ.out _ (by omega)) (by rw [← hy.out]; exact HQJ.out _ (by omega))
          have ea : ((jp : Int) + 1).toNat = j := by omega
          have ec : ((jp : Int)).toNat = jp := by omega
          have pa : (0 : Int) ≤ (jp : Int) + 1 := by omega
          have pc : (0 : Int) ≤ (jp : Int) := by omega
          have ba : (jp : Int) + 1 < (n : Int) := by omega
          have bc : (jp : Int) < (n : Int) := by omega
          have ra : IntKind.i64.wrap ((jp : Int) + 1) = (jp : Int) + 1 := by rw [IntKind.wrap_i64]; omega
          have rc : IntKind.i64.wrap (jp : Int) = (jp : Int) := by rw [IntKind.wrap_i64]; omega
          have hjad : decide ((jp : Int) + 1 > (a : Int)) = true := decide_eq_true (by omega)
          have hjaz' : (a : Int) < (jp : Int) + 1 := by omega
          by_cases hlv : c x.1 y.1 < 0
          · have hd : decide (c x.1 y.1 < 0) = true := decide_eq_true hlv
            have HI2 := Lib.hid (HSTEP.out hlv)
            clear HOUT HSTEP
            go_wp2_with fail
            refine wp_region_quiet_below (by kernel_rfl) (by kernel_rfl) ?_
            repeat (go_big_quiet_step ((exact below_quiet (hcall _))))
            refine wpQuiet_nil ?_
            intro w2 hw'
            have hb2 := bw_below hw'
            clear hw'
            have S2 : Hid (SS encS w0 blk off n dj w2) := SJ.out.below hb2
            clear l1 l2 hcall SJ hb2
            have c1 : w2.cell? ⟨blk, off + j, none⟩ = some (.int .i64 x.1) := by have := S2.out.cells j (by omega); rw [hx.out] at this; exact this
            have c2 : w2.cell? ⟨blk, off + jp, none⟩ = some (.int .i64 y.1) := by have := S2.out.cells jp (by omega); rw [hy.out] at this; exact this
            have f1 := S2.out.free j (by omega)
            have f2 := S2.out.free jp (by omega)
            obtain ⟨u, c3⟩ := S2.out.c2 (i := j) (j := jp) (by omega) (by omega) (.int .i64 y.1)
            have S3 : Hid (SS encS w0 blk off n (swpF dj j jp) ((w2.setCell ⟨blk, off + j, none⟩ (.int .i64 y.1)).setCell ⟨blk, off + jp, none⟩ (.int .i64 x.1)).drew) := by
              have := S2.out.swapped (i := j) (j := jp) (by omega) (by omega)
              rw [hx.out, hy.out] at this
              exact this
            clear S2
            go_wp2_with fail
            go_region
            clear c1 c2 c3 f1 f2
            generalize ((w2.setCell ⟨blk, off + j, none⟩ (.int .i64 y.1)).setCell ⟨blk, off + jp, none⟩ (.int .i64 x.1)).drew = w3 at S3 ⊢
            clear ea ec ra rc
            go_wp2
            go_roundg jp
            case measure => omega
            case rel => exact ⟨jp, swpF dj j jp, by first | rfl | go_num | (congr 1; omega), by omega, by omega, Nat.le_refl _, S3, HI2⟩
          · have hd : decide (c x.1 y.1 < 0) = false := decide_eq_false hlv
            have HO := Lib.hid (HOUT.out hlv)
            clear HOUT HSTEP
            go_wp2_with fail
            refine wp_region_quiet_below (by kernel_rfl) (by kernel_rfl) ?_
            repeat (go_big_quiet_step ((exact below_quiet (hcall _))))
            refine wpQuiet_nil ?_
            intro w2 hw'
            have hb2 := bw_below hw'
            clear hw'
            have S2 : Hid (SS encS w0 blk off n dj w2) := SJ.out.below hb2
            clear l1 l2 hcall SJ hb2 ea ec ra rc
            go_wp2
            go_roundg (b - (i + 1))
            case measure => omega
            case rel => exact ⟨i + 1, dj, by go_num, by omega, by omega, by omega, S2, HO.out.1, HO.out.2⟩
        · have hjaz : decide ((j : Int) > (a : Int)) = false := decide_eq_false (by omega)
          have hjaz' : ¬ (a : Int) < (j : Int) := by omega
          have HO := Lib.hid (OUT.out (Or.inl (by omega)))
          clear OUT
          go_wp2_with fail
          go_quiet (fail)
          have S2 : Hid (SS encS w0 blk off n dj (wr.drewN nq)) := SJ.out.drewN nq
          clear SJ
          generalize wr.drewN nq = w2 at S2 ⊢
          go_wp2
          go_roundg (b - (i + 1))
          case measure => omega
          case rel => exact ⟨i + 1, dj, by go_num, by omega, by omega, by omega, S2, HO.out.1, HO.out.2⟩
    · have hltz : ¬ (i : Int) < (b : Int) := by omega
      go_wp2
      go_end0
      have hmin : min i b = b := by omega
      rw [hmin] at P1 T1
      exact ⟨rfl, dk, S1.out, P1.out, T1.out⟩
end Go.Proofs.YtplchlkdijjamaaDoor
