/-
  The reference's test that two lists of lines are equal: two that are.
-/
import Derived.Test.YtdpllfgnppeneaaGreatDoorG06
namespace Go.Proofs.YtdpllfgnppeneaaGreatDoor
open Go.RowKit Ru Lay
attribute [local go_sem ↓] Go.wp_at_zero Go.wp_at_succ
set_option linter.unusedVariables false
set_option linter.unusedSimpArgs false

set_option maxHeartbeats 1000000 in
set_option maxRecDepth 100000 in
theorem sameH_any (A B : Option Addr) (n c d : Nat) (xs ys : List Hv) (w : World) (he : xs.map Hv.toHt = ys.map Hv.toHt) (ha : HitsR w w.heap.size A n xs) (hb : HitsR w w.heap.size B n ys) (hn : n ≤ 9223372036854775807) :
    Calls Tryz.prog 10 #[.slice A n c, .slice B n d] w fun e w' => e = .returned (.bool true) ∧ Below w.heap.size w w' := by
  have HA := Lib.hid ha
  have HB := Lib.hid hb
  have HE := Lib.hid he
  clear ha hb he
  go_enter Tryz.func10, Tryz.ntmps10
  have hnn : ((n : Int) != (n : Int)) = false := by simp
  go_wp2_with fail
  go_loopw [5] (fun v5 wr => ∃ i : Nat, i ≤ n ∧ v5 = .int .i64 i ∧ Hid (Below w.heap.size w wr)) (fun v5 _ => n - (intOf v5).toNat)
  case atStart => exact ⟨0, Nat.zero_le _, rfl, Below.refl _ _⟩
  case round =>
    obtain ⟨i, hi, rfl, HB0⟩ := hrel
    obtain ⟨w2, hw2⟩ : ∃ w2, wr = w2 := ⟨_, rfl⟩
    rw [hw2] at HB0 ⊢
    clear hw2
    by_cases hlt : i < n
    · have hiz : (i : Int) < (n : Int) := by omega
      have hiA : (0 : Int) ≤ (i : Int) := by omega
      have HI := Lib.hid hlt
      obtain ⟨aa, x, rfl, haa, hx, hvx, p0, p1, p2, p3, p4⟩ := HA.out.at_ hlt
      obtain ⟨ab, y, rfl, hab, hy, hvy, q0, q1, q2, q3, q4⟩ := HB.out.at_ hlt
      have hxy : x.toHt = y.toHt := by
        have h1 := congrArg (fun l => l[i]?) HE.out
        simpa [List.getElem?_map, hx, hy] using h1
      have hla : (aa.add (i * 5)).block < w.heap.size := by rw [block_of_add]; exact haa
      have hlb : (ab.add (i * 5)).block < w.heap.size := by rw [block_of_add]; exact hab
      have HBP : Hid (∀ p : BW w2, Below w.heap.size w p.at_) := fun p => HB0.out.trans (p.bel.mono HB0.out.size)
      have HEQ : Hid (∀ p : BW w2, Calls Tryz.prog 9 #[.agg #[.int .i64 x.rid, .int .i64 x.nid, .slice x.la x.ln x.lc, .string x.key, .slice x.ra x.rn x.rc], .agg #[.int .i64 y.rid, .int .i64 y.nid, .slice y.la y.ln y.lc, .string y.key, .slice y.ra y.rn y.rc]] p.at_ fun e w' => e = .returned (.bool true) ∧ Below p.at_.heap.size p.at_ w') := fun p =>
        equalH_any x y p.at_ hxy (hvx.on (HBP.out p)) (hvy.on (HBP.out p)) (Nat.le_trans hvx.lc.1 hvx.lc.2) (Nat.le_trans hvx.rc.1 hvx.rc.2) (Nat.le_trans hvy.lc.1 hvy.lc.2) (Nat.le_trans hvy.rc.1 hvy.rc.2)
      have r0 : ∀ p : BW w2, p.at_.cell? (aa.add (i * 5)) = some (.int .i64 x.rid) := fun p => ((HBP.out p).cell hla).trans p0
      have r1 : ∀ p : BW w2, p.at_.cell? ⟨(aa.add (i * 5)).block, (aa.add (i * 5)).off + 1, none⟩ = some (.int .i64 x.nid) := fun p => ((HBP.out p).cell (p := ⟨_, _, none⟩) hla).trans p1
      have r2 : ∀ p : BW w2, p.at_.cell? ⟨(aa.add (i * 5)).block, (aa.add (i * 5)).off + 2, none⟩ = some (.slice x.la x.ln x.lc) := fun p => ((HBP.out p).cell (p := ⟨_, _, none⟩) hla).trans p2
      have r3 : ∀ p : BW w2, p.at_.cell? ⟨(aa.add (i * 5)).block, (aa.add (i * 5)).off + 3, none⟩ = some (.string x.key) := fun p => ((HBP.out p).cell (p := ⟨_, _, none⟩) hla).trans p3
      have r4 : ∀ p : BW w2, p.at_.cell? ⟨(aa.add (i * 5)).block, (aa.add (i * 5)).off + 4, none⟩ = some (.slice x.ra x.rn x.rc) := fun p => ((HBP.out p).cell (p := ⟨_, _, none⟩) hla).trans p4
      have s0 : ∀ p : BW w2, p.at_.cell? (ab.add (i * 5)) = some (.int .i64 y.rid) := fun p => ((HBP.out p).cell hlb).trans q0
      have s1 : ∀ p : BW w2, p.at_.cell? ⟨(ab.add (i * 5)).block, (ab.add (i * 5)).off + 1, none⟩ = some (.int .i64 y.nid) := fun p => ((HBP.out p).cell (p := ⟨_, _, none⟩) hlb).trans q1
      have s2 : ∀ p : BW w2, p.at_.cell? ⟨(ab.add (i * 5)).block, (ab.add (i * 5)).off + 2, none⟩ = some (.slice y.la y.ln y.lc) := fun p => ((HBP.out p).cell (p := ⟨_, _, none⟩) hlb).trans q2
      have s3 : ∀ p : BW w2, p.at_.cell? ⟨(ab.add (i * 5)).block, (ab.add (i * 5)).off + 3, none⟩ = some (.string y.key) := fun p => ((HBP.out p).cell (p := ⟨_, _, none⟩) hlb).trans q3
      have s4 : ∀ p : BW w2, p.at_.cell? ⟨(ab.add (i * 5)).block, (ab.add (i * 5)).off + 4, none⟩ = some (.slice y.ra y.rn y.rc) := fun p => ((HBP.out p).cell (p := ⟨_, _, none⟩) hlb).trans q4
      clear p0 p1 p2 p3 p4 q0 q1 q2 q3 q4 hla hlb hx hy hvx hvy hxy HBP
      go_wp2_with fail
      refine wp_region_quiet_below (by kernel_rfl) (by kernel_rfl) ?_
      repeat (go_big_quiet_step ((exact below_quiet (HEQ.out _))))
      refine wpQuiet_nil ?_
      intro w3 hw'
      have hb3 := bw_below hw'
      clear hw' r0 r1 r2 r3 r4 s0 s1 s2 s3 s4 HEQ
      have HB3 : Hid (Below w.heap.size w w3) := HB0.out.trans (hb3.mono HB0.out.size)
      clear hb3
      go_wp2
      go_roundw
      case rel => exact ⟨i + 1, HI.out, by go_num, HB3⟩
      case measure => have := HI.out; simp [intOf]; omega
    · obtain rfl : n = i := by omega
      have hiz : ¬ (n : Int) < (n : Int) := by omega
      go_wp2
      go_ret
      exact ⟨rfl, HB0.out⟩
end Go.Proofs.YtdpllfgnppeneaaGreatDoor
