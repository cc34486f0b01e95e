import Derived.Test.YthcabnfcgjnlnaaGreatDoorLi02
import Derived.Laws.StructEq
set_option linter.unusedVariables false
set_option linter.unusedSimpArgs false
namespace Go.Proofs.YthcabnfcgjnlnaaGreatDoor
section
open Go.RowKit Ru Lay
attribute [local go_sem ↓] Go.wp_at_zero Go.wp_at_succ
theorem tier_cells (w : World) (nm : ByteArray) (k r p : Int) : ∃ W0, w.alloc (.cells #[.string nm, .int .i64 k, .int .i64 r, .int .i64 p] 86) = W0 /\ W0.heap.size = w.heap.size + 1 /\ Below w.heap.size w W0 /\
  ∀ X, Below W0.heap.size W0 X -> X.cell? ⟨w.heap.size, 0, none⟩ = some (.string nm) /\ X.cell? ⟨w.heap.size, 1, none⟩ = some (.int .i64 k) /\ X.cell? ⟨w.heap.size, 2, none⟩ = some (.int .i64 r) /\ X.cell? ⟨w.heap.size, 3, none⟩ = some (.int .i64 p) := by
 refine ⟨_, rfl, by simp, (Below.refl _ w).alloc (Nat.le_refl _) _, fun X hX => ?_⟩;have h : ∀ i, X.cell? ⟨w.heap.size, i, none⟩ = (w.alloc (.cells #[.string nm, .int .i64 k, .int .i64 r, .int .i64 p] 86)).cell? ⟨w.heap.size, i, none⟩ := fun i => hX.cell (by simp)
 refine ⟨?_, ?_, ?_, ?_⟩ <;> rw [h, World.cell?_alloc_new] <;> rfl
theorem kind11_sw (r : Int) (W : World) : Calls Tryz.prog 108 #[.int .i64 r] W fun e w' => e = .returned (.int .i64 (kind11 r)) /\ w' = W := (kind11_any r W).mono fun _ _ h => ⟨h.1, h.2.symm⟩
theorem over11_sw (r : Int) (W : World) : Calls Tryz.prog 109 #[.int .i64 r] W fun e w' => e = .returned (.int .i64 (over11 r)) /\ w' = W := (over11_any r W).mono fun _ _ h => ⟨h.1, h.2.symm⟩
set_option maxHeartbeats 4000000 in
set_option maxRecDepth 100000 in
theorem tier11_any (A : Option Addr) (n c i : Nat) (T : List Ti) (t : Ti) (w : World) (hT : TiersR w w.heap.size A n T) (hn : n <= 9223372036854775807) (hi : i < n) (ht : T[i]? = some t) :
  Calls Tryz.prog 81 #[.slice A n c, .int .i64 i] w fun e w' => ∃ r : Int, e = .returned (.int .i64 r) /\ (r = 0 -> TOk t i) /\ Below w.heap.size w w' := by
 have HT := hI hT;have HI := hI hi;obtain ⟨ad, x, rfl, hab, hx, hxn, hcells⟩ := hT.at_ hi;rw [ht] at hx
 cases hx;obtain ⟨W0, hW0, hz0, hB, hK⟩ := tier_cells w t.name t.kind t.role t.parent;have HB := hI hB;have HK := hI hK;obtain ⟨q0, q1, q2, q3⟩ := hcells w bR;have hiz : (i : Int) < (n : Int) := by omega
 have hiA : (0 : Int) <= (i : Int) := by omega
 obtain ⟨nb, hnb⟩ : ∃ nb, Ok.nameB t.name.data.toList = nb := ⟨_, rfl⟩;have HNM := hI fun W => name10_any t.name W hxn
 rw [hnb] at HNM;obtain ⟨nm, kd, rl, pr⟩ := t;have HADB := hI hab;clear hT ht hnb hcells hB hK hxn hi hab;simp only at *;go_enter Tryz.func81, Tryz.ntmps81
 go_upto_region 2 with fail
 (try rw [hW0])
 clear hW0 q0 q1 q2 q3;have HBW0 : Hid (Below W0.heap.size W0 W0) := Below.refl _ _;obtain ⟨p0, p1, p2, p3⟩ := HK.out W0 bR
 cases nb with
 | false =>
  go_wp2_with fail
  refine (HNM.out W0).mono ?_;rintro e w1 ⟨rfl, rfl⟩;go_wp2;go_ret;exact ⟨7, rfl, fun h => absurd h (by decide), HB.out⟩
 | true =>
  go_wp2_with fail
  refine (HNM.out W0).mono ?_;rintro e w1 ⟨rfl, rfl⟩;clear HNM p0 p1 p2 p3;go_wp2_with fail
  go_loopw [6] (fun v6 wr => ∃ k : Nat, k <= i /\ v6 = .int .i64 k /\ Hid (Below W0.heap.size W0 wr)) (fun v6 _ => i - (intOf v6).toNat)
  case atStart => exact ⟨0, Nat.zero_le _, rfl, HBW0⟩
  case round =>
   obtain ⟨k, hk, rfl, HB0⟩ := hrel;obtain ⟨w0, hw0⟩ : ∃ w0, wr = w0 := ⟨_, rfl⟩;rw [hw0] at HB0 |-;clear hw0;obtain ⟨p0, p1, p2, p3⟩ := HK.out w0 HB0.out;have HBW : Hid (Below w.heap.size w w0) := HB.out.trans (HB0.out.mono HB.out.size);by_cases hlt : k < i
   ·have hkz : (k : Int) < (i : Int) := by omega
    have hkn : (k : Int) < (n : Int) := by omega
    have hkA : (0 : Int) <= (k : Int) := by omega
    have HLT := hI hlt;obtain ⟨bd, y, e1, _, hy, _, hcells⟩ := HT.out.at_ (k := k) (by have := HI.out; omega)
    cases e1;obtain ⟨r0, r1, r2, r3⟩ := hcells w0 HBW.out;clear hcells hy
    cases hbe : (y.name.toList == nm.toList) with
    | true =>
     go_wp2_with fail
     go_quiet (fail)
     have HB2 : Hid (Below w.heap.size w (w0.drewN nq)) := below_drewN HBW.out nq;go_wp2;go_ret;exact ⟨8, rfl, fun h => absurd h (by decide), HB2.out⟩
    | false =>
     go_wp2_with fail
     go_quiet (fail)
     have HB2 : Hid (Below W0.heap.size W0 (w0.drewN nq)) := below_drewN HB0.out nq;clear p0 p1 p2 p3 r0 r1 r2 r3;go_wp2;go_roundw
     case rel => exact ⟨k + 1, HLT.out, by go_num, HB2⟩
     case measure => have := HLT.out; simp [intOf]; omega
   ·obtain rfl : i = k := by omega
    have hkz : ¬ (i : Int) < (i : Int) := by omega
    by_cases k0 : kd < 0
    ·have d0 : decide (kd < 0) = true := decide_eq_true k0;go_wp2;go_ret;exact ⟨14, rfl, fun h => absurd h (by decide), HBW.out⟩
    ·have d0 : decide (kd < 0) = false := decide_eq_false k0;by_cases k4 : 4 < kd
     ·have d4 : decide (kd > 4) = true := decide_eq_true k4;have d4' : decide (4 < kd) = true := decide_eq_true k4;go_wp2;go_ret;exact ⟨14, rfl, fun h => absurd h (by decide), HBW.out⟩
     ·have d4 : decide (kd > 4) = false := decide_eq_false k4;have d4' : decide (4 < kd) = false := decide_eq_false k4;have HKD : Hid (0 <= kd /\ kd <= 4) := by show _ /\ _; omega
      by_cases r0 : rl < 0
      ·have e0 : decide (rl < 0) = true := decide_eq_true r0;go_wp2;go_ret;exact ⟨2, rfl, fun h => absurd h (by decide), HBW.out⟩
      ·have e0 : decide (rl < 0) = false := decide_eq_false r0;by_cases r5 : 5 < rl
       ·have e5 : decide (rl > 5) = true := decide_eq_true r5;have e5' : decide (5 < rl) = true := decide_eq_true r5;go_wp2;go_ret;exact ⟨2, rfl, fun h => absurd h (by decide), HBW.out⟩
       ·have e5 : decide (rl > 5) = false := decide_eq_false r5;have e5' : decide (5 < rl) = false := decide_eq_false r5;clear HBW0;go_wp2_with fail
        clear d0 d4 d4' e0 e5 e5' k0 k4 r0 r5 p0 p1 p2 p3 hkz HBW;go_loopw [7] (fun v7 wr => ∃ k : Nat, k <= i /\ v7 = .int .i64 k /\ Hid (Below W0.heap.size W0 wr)) (fun v7 _ => i - (intOf v7).toNat)
        case atStart => exact ⟨0, Nat.zero_le _, rfl, HB0⟩
        case round =>
         clear HB0;obtain ⟨k, hk, rfl, HB0⟩ := hrel;obtain ⟨w0, hw0⟩ : ∃ w0, wr = w0 := ⟨_, rfl⟩;rw [hw0] at HB0 |-;clear hw0;obtain ⟨p0, p1, p2, p3⟩ := HK.out w0 HB0.out;have HBW : Hid (Below w.heap.size w w0) := HB.out.trans (HB0.out.mono HB.out.size);by_cases hlt : k < i
         ·have hkz : (k : Int) < (i : Int) := by omega
          have hkn : (k : Int) < (n : Int) := by omega
          have hkA : (0 : Int) <= (k : Int) := by omega
          have HLT := hI hlt;obtain ⟨bd, y, e1, _, hy, _, hcells⟩ := HT.out.at_ (k := k) (by have := HI.out; omega)
          cases e1;obtain ⟨r0, r1, r2, r3⟩ := hcells w0 HBW.out;clear hcells hy;by_cases z0 : rl = 0
          ·have b0 : (rl != 0) = false := by rw [bne_eq_false_iff_eq]; exact z0
           have Z0 := hI z0;clear z0;go_wp2_with fail
           go_quiet (fail)
           have HB2 : Hid (Below W0.heap.size W0 (w0.drewN nq)) := below_drewN HB0.out nq;clear p0 p1 p2 p3 r0 r1 r2 r3 b0;go_wp2;go_roundw
           case rel => exact ⟨k + 1, HLT.out, by go_num, HB2⟩
           case measure => have := HLT.out; simp [intOf]; omega
          ·have b0 : (rl != 0) = true := bne_iff_ne.2 z0
           cases hbe : (y.role == rl) with
           | true =>
            go_wp2_with fail
            go_quiet (fail)
            have HB2 : Hid (Below w.heap.size w (w0.drewN nq)) := below_drewN HBW.out nq;go_wp2;go_ret;exact ⟨8, rfl, fun h => absurd h (by decide), HB2.out⟩
           | false =>
            go_wp2_with fail
            go_quiet (fail)
            have HB2 : Hid (Below W0.heap.size W0 (w0.drewN nq)) := below_drewN HB0.out nq;clear p0 p1 p2 p3 r0 r1 r2 r3 b0 hbe;go_wp2;go_roundw
            case rel => exact ⟨k + 1, HLT.out, by go_num, HB2⟩
            case measure => have := HLT.out; simp [intOf]; omega
         ·obtain rfl : i = k := by omega
          have hkz : ¬ (i : Int) < (i : Int) := by omega
          have HK1 := hI fun W => kind11_sw rl W
          have HO1 := hI fun W => over11_sw rl W
          obtain ⟨kv, hkv⟩ : ∃ kv, kind11 rl = kv := ⟨_, rfl⟩;obtain ⟨ov, hov⟩ : ∃ ov, over11 rl = ov := ⟨_, rfl⟩;rw [hkv] at HK1;rw [hov] at HO1;have HKV := hI hkv;clear hkv hov;by_cases z0 : kd = 0
          ·have b0 : (kd == 0) = true := beq_iff_eq.2 z0;have Z0 := hI z0;clear z0;by_cases y1 : pr = -1
           ·have c1 : (pr != -1) = false := by rw [bne_eq_false_iff_eq]; exact y1
            have HOK : Hid (TOk0 ⟨nm, kd, rl, pr⟩ i) := ⟨HKD.out, .inl ⟨Z0.out, y1⟩⟩;clear y1;by_cases u0 : 0 <= kv
            ·have e0 : decide (kv ≥ 0) = true := decide_eq_true u0;have e0' : decide (0 <= kv) = true := decide_eq_true u0;by_cases u1 : kd = kv
             ·have e1 : (kd != kv) = false := by rw [bne_eq_false_iff_eq]; exact u1
              have HU : Hid (0 <= kind11 rl -> kd = kind11 rl) := fun _ => by rw [HKV.out]; exact u1
              clear u1;go_wp2_with fail
              go_quiet ((go_at_call 108; exact Calls.quiet_of_same (HK1.out _)))
              have HB8 : Hid (Below w.heap.size w (w0.drewN nq)) := below_drewN HBW.out nq;have HB80 : Hid (Below W0.heap.size W0 (w0.drewN nq)) := below_drewN HB0.out nq;obtain ⟨w8, hw8⟩ : ∃ w8, w0.drewN nq = w8 := ⟨_, rfl⟩;rw [hw8] at HB8 HB80 |-;clear hw8 p0 p1 p2 p3;obtain ⟨p0, p1, p2, p3⟩ := HK.out w8 HB80.out;clear e0 e0' e1 u0;by_cases v0 : 0 <= ov
              ·have f0 : decide (ov ≥ 0) = true := decide_eq_true v0;have f0' : decide (0 <= ov) = true := decide_eq_true v0;go_wp2_with fail
               go_quiet ((go_at_call 109; exact Calls.quiet_of_same (HO1.out _)))
               have HB9 : Hid (Below w.heap.size w (w8.drewN nq)) := below_drewN HB8.out nq;go_wp2;go_ret;exact ⟨13, rfl, fun h => absurd h (by decide), HB9.out⟩
              ·have f0 : decide (ov ≥ 0) = false := decide_eq_false v0;have f0' : decide (0 <= ov) = false := decide_eq_false v0;go_wp2_with fail
               go_quiet ((go_at_call 109; exact Calls.quiet_of_same (HO1.out _)))
               have HB9 : Hid (Below w.heap.size w (w8.drewN nq)) := below_drewN HB8.out nq;go_wp2;go_ret;exact ⟨0, rfl, fun _ => ⟨HOK.out, HU.out⟩, HB9.out⟩
             ·have e1 : (kd != kv) = true := bne_iff_ne.2 u1;go_wp2_with fail
              go_quiet ((go_at_call 108; exact Calls.quiet_of_same (HK1.out _)))
              have HB8 : Hid (Below w.heap.size w (w0.drewN nq)) := below_drewN HBW.out nq;go_wp2;go_ret;exact ⟨14, rfl, fun h => absurd h (by decide), HB8.out⟩
            ·have e0 : decide (kv ≥ 0) = false := decide_eq_false u0;have HU : Hid (0 <= kind11 rl -> kd = kind11 rl) := fun h => absurd (by rw [HKV.out] at h; exact h) u0
             have e0' : decide (0 <= kv) = false := decide_eq_false u0;go_wp2_with fail
             go_quiet ((go_at_call 108; exact Calls.quiet_of_same (HK1.out _)))
             have HB8 : Hid (Below w.heap.size w (w0.drewN nq)) := below_drewN HBW.out nq;have HB80 : Hid (Below W0.heap.size W0 (w0.drewN nq)) := below_drewN HB0.out nq;obtain ⟨w8, hw8⟩ : ∃ w8, w0.drewN nq = w8 := ⟨_, rfl⟩;rw [hw8] at HB8 HB80 |-;clear hw8 p0 p1 p2 p3;obtain ⟨p0, p1, p2, p3⟩ := HK.out w8 HB80.out;clear e0 e0' u0;by_cases v0 : 0 <= ov
             ·have f0 : decide (ov ≥ 0) = true := decide_eq_true v0;have f0' : decide (0 <= ov) = true := decide_eq_true v0;go_wp2_with fail
              go_quiet ((go_at_call 109; exact Calls.quiet_of_same (HO1.out _)))
              have HB9 : Hid (Below w.heap.size w (w8.drewN nq)) := below_drewN HB8.out nq;go_wp2;go_ret;exact ⟨13, rfl, fun h => absurd h (by decide), HB9.out⟩
             ·have f0 : decide (ov ≥ 0) = false := decide_eq_false v0;have f0' : decide (0 <= ov) = false := decide_eq_false v0;go_wp2_with fail
              go_quiet ((go_at_call 109; exact Calls.quiet_of_same (HO1.out _)))
              have HB9 : Hid (Below w.heap.size w (w8.drewN nq)) := below_drewN HB8.out nq;go_wp2;go_ret;exact ⟨0, rfl, fun _ => ⟨HOK.out, HU.out⟩, HB9.out⟩
           ·have c1 : (pr != -1) = true := bne_iff_ne.2 y1;clear y1;go_wp2;go_ret;exact ⟨13, rfl, fun h => absurd h (by decide), HBW.out⟩
          ·have b0 : (kd == 0) = false := beq_eq_false_iff_ne.2 z0;have Z0 := hI z0;clear z0;by_cases y1 : pr < 0
           ·have c1 : decide (pr < 0) = true := decide_eq_true y1;clear y1;go_wp2;go_ret;exact ⟨13, rfl, fun h => absurd h (by decide), HBW.out⟩
           ·have c1 : decide (pr < 0) = false := decide_eq_false y1;by_cases y2 : (i : Int) <= pr
            ·have c2 : decide (pr ≥ (i : Int)) = true := decide_eq_true y2;have c2' : decide ((i : Int) <= pr) = true := decide_eq_true y2;clear y1 y2;go_wp2;go_ret;exact ⟨13, rfl, fun h => absurd h (by decide), HBW.out⟩
            ·have c2 : decide (pr ≥ (i : Int)) = false := decide_eq_false y2;have c2' : decide ((i : Int) <= pr) = false := decide_eq_false y2;have HOK : Hid (TOk0 ⟨nm, kd, rl, pr⟩ i) := ⟨HKD.out, .inr ⟨Z0.out, by show 0 <= pr; omega, by show pr < _; omega⟩⟩;obtain ⟨j, rfl⟩ : ∃ j : Nat, pr = (j : Int) := ⟨pr.toNat, by omega⟩;have hjn : (j : Int) < (n : Int) := by have := HI.out; omega
             have hjA : (0 : Int) <= (j : Int) := by omega
             have c2n : ¬ i <= j := by omega
             have c2d : decide (i <= j) = false := decide_eq_false c2n;obtain ⟨bd, y, e1, hbd, hy, _, hcells⟩ := HT.out.at_ (k := j) (by have := HI.out; omega)
             cases e1;obtain ⟨r0, r1, r2, r3⟩ := hcells w0 HBW.out;have HT1 := hI fun W => timed_any kd W
             have HT2 := hI fun W => timed_any y.kind W
             clear hy;obtain ⟨tk, htk⟩ : ∃ tk, timedK kd = tk := ⟨_, rfl⟩;obtain ⟨ty, hty⟩ : ∃ ty, timedK y.kind = ty := ⟨_, rfl⟩;rw [htk] at HT1;rw [hty] at HT2;clear htk hty y1 y2
             cases tk with
             | false =>
              go_upto_region 23 with (with_reducible refine (HT1.out w0).mono ?_; rintro e w1 ⟨rfl, rfl⟩)
              by_cases u0 : 0 <= kv
              ·have e0 : decide (kv ≥ 0) = true := decide_eq_true u0;have e0' : decide (0 <= kv) = true := decide_eq_true u0;by_cases u1 : kd = kv
               ·have e1 : (kd != kv) = false := by rw [bne_eq_false_iff_eq]; exact u1
                have HU : Hid (0 <= kind11 rl -> kd = kind11 rl) := fun _ => by rw [HKV.out]; exact u1
                clear u1;go_wp2_with fail
                go_quiet ((go_at_call 108; exact Calls.quiet_of_same (HK1.out _)))
                have HB8 : Hid (Below w.heap.size w (w0.drewN nq)) := below_drewN HBW.out nq;have HB80 : Hid (Below W0.heap.size W0 (w0.drewN nq)) := below_drewN HB0.out nq;obtain ⟨w8, hw8⟩ : ∃ w8, w0.drewN nq = w8 := ⟨_, rfl⟩;rw [hw8] at HB8 HB80 |-;clear hw8 p0 p1 p2 p3 r0 r1 r2 r3;obtain ⟨p0, p1, p2, p3⟩ := HK.out w8 HB80.out;obtain ⟨r0, r1, r2, r3⟩ := hcells w8 HB8.out;clear e0 e0' e1 u0;by_cases v0 : 0 <= ov
                ·have f0 : decide (ov ≥ 0) = true := decide_eq_true v0;have f0' : decide (0 <= ov) = true := decide_eq_true v0;by_cases v1 : y.role = ov
                 ·have g0 : (y.role != ov) = false := by rw [bne_eq_false_iff_eq]; exact v1
                  clear v1;go_wp2_with fail
                  go_quiet ((go_at_call 109; exact Calls.quiet_of_same (HO1.out _)))
                  have HB9 : Hid (Below w.heap.size w (w8.drewN nq)) := below_drewN HB8.out nq;go_wp2;go_ret;exact ⟨0, rfl, fun _ => ⟨HOK.out, HU.out⟩, HB9.out⟩
                 ·have g0 : (y.role != ov) = true := bne_iff_ne.2 v1;go_wp2_with fail
                  go_quiet ((go_at_call 109; exact Calls.quiet_of_same (HO1.out _)))
                  have HB9 : Hid (Below w.heap.size w (w8.drewN nq)) := below_drewN HB8.out nq;go_wp2;go_ret;exact ⟨13, rfl, fun h => absurd h (by decide), HB9.out⟩
                ·have f0 : decide (ov ≥ 0) = false := decide_eq_false v0;have f0' : decide (0 <= ov) = false := decide_eq_false v0;go_wp2_with fail
                 go_quiet ((go_at_call 109; exact Calls.quiet_of_same (HO1.out _)))
                 have HB9 : Hid (Below w.heap.size w (w8.drewN nq)) := below_drewN HB8.out nq;go_wp2;go_ret;exact ⟨0, rfl, fun _ => ⟨HOK.out, HU.out⟩, HB9.out⟩
               ·have e1 : (kd != kv) = true := bne_iff_ne.2 u1;go_wp2_with fail
                go_quiet ((go_at_call 108; exact Calls.quiet_of_same (HK1.out _)))
                have HB8 : Hid (Below w.heap.size w (w0.drewN nq)) := below_drewN HBW.out nq;go_wp2;go_ret;exact ⟨14, rfl, fun h => absurd h (by decide), HB8.out⟩
              ·have e0 : decide (kv ≥ 0) = false := decide_eq_false u0;have HU : Hid (0 <= kind11 rl -> kd = kind11 rl) := fun h => absurd (by rw [HKV.out] at h; exact h) u0
               have e0' : decide (0 <= kv) = false := decide_eq_false u0;go_wp2_with fail
               go_quiet ((go_at_call 108; exact Calls.quiet_of_same (HK1.out _)))
               have HB8 : Hid (Below w.heap.size w (w0.drewN nq)) := below_drewN HBW.out nq;have HB80 : Hid (Below W0.heap.size W0 (w0.drewN nq)) := below_drewN HB0.out nq;obtain ⟨w8, hw8⟩ : ∃ w8, w0.drewN nq = w8 := ⟨_, rfl⟩;rw [hw8] at HB8 HB80 |-;clear hw8 p0 p1 p2 p3 r0 r1 r2 r3;obtain ⟨p0, p1, p2, p3⟩ := HK.out w8 HB80.out;obtain ⟨r0, r1, r2, r3⟩ := hcells w8 HB8.out;clear e0 e0' u0;by_cases v0 : 0 <= ov
               ·have f0 : decide (ov ≥ 0) = true := decide_eq_true v0;have f0' : decide (0 <= ov) = true := decide_eq_true v0;by_cases v1 : y.role = ov
                ·have g0 : (y.role != ov) = false := by rw [bne_eq_false_iff_eq]; exact v1
                 clear v1;go_wp2_with fail
                 go_quiet ((go_at_call 109; exact Calls.quiet_of_same (HO1.out _)))
                 have HB9 : Hid (Below w.heap.size w (w8.drewN nq)) := below_drewN HB8.out nq;go_wp2;go_ret;exact ⟨0, rfl, fun _ => ⟨HOK.out, HU.out⟩, HB9.out⟩
                ·have g0 : (y.role != ov) = true := bne_iff_ne.2 v1;go_wp2_with fail
                 go_quiet ((go_at_call 109; exact Calls.quiet_of_same (HO1.out _)))
                 have HB9 : Hid (Below w.heap.size w (w8.drewN nq)) := below_drewN HB8.out nq;go_wp2;go_ret;exact ⟨13, rfl, fun h => absurd h (by decide), HB9.out⟩
               ·have f0 : decide (ov ≥ 0) = false := decide_eq_false v0;have f0' : decide (0 <= ov) = false := decide_eq_false v0;go_wp2_with fail
                go_quiet ((go_at_call 109; exact Calls.quiet_of_same (HO1.out _)))
                have HB9 : Hid (Below w.heap.size w (w8.drewN nq)) := below_drewN HB8.out nq;go_wp2;go_ret;exact ⟨0, rfl, fun _ => ⟨HOK.out, HU.out⟩, HB9.out⟩
             | true =>
              cases ty with
              | false =>
               go_wp2_with (first | (with_reducible refine (HT1.out w0).mono ?_; rintro e w1 ⟨rfl, rfl⟩) | (with_reducible refine (HT2.out _).mono ?_; rintro e w1 ⟨rfl, rfl⟩))
               go_ret;exact ⟨13, rfl, fun h => absurd h (by decide), HBW.out⟩
              | true =>
               go_upto_region 23 with (first | (with_reducible refine (HT1.out w0).mono ?_; rintro e w1 ⟨rfl, rfl⟩) | (with_reducible refine (HT2.out _).mono ?_; rintro e w1 ⟨rfl, rfl⟩))
               by_cases u0 : 0 <= kv
               ·have e0 : decide (kv ≥ 0) = true := decide_eq_true u0;have e0' : decide (0 <= kv) = true := decide_eq_true u0;by_cases u1 : kd = kv
                ·have e1 : (kd != kv) = false := by rw [bne_eq_false_iff_eq]; exact u1
                 have HU : Hid (0 <= kind11 rl -> kd = kind11 rl) := fun _ => by rw [HKV.out]; exact u1
                 clear u1;go_wp2_with fail
                 go_quiet ((go_at_call 108; exact Calls.quiet_of_same (HK1.out _)))
                 have HB8 : Hid (Below w.heap.size w (w0.drewN nq)) := below_drewN HBW.out nq;have HB80 : Hid (Below W0.heap.size W0 (w0.drewN nq)) := below_drewN HB0.out nq;obtain ⟨w8, hw8⟩ : ∃ w8, w0.drewN nq = w8 := ⟨_, rfl⟩;rw [hw8] at HB8 HB80 |-;clear hw8 p0 p1 p2 p3 r0 r1 r2 r3;obtain ⟨p0, p1, p2, p3⟩ := HK.out w8 HB80.out;obtain ⟨r0, r1, r2, r3⟩ := hcells w8 HB8.out;clear e0 e0' e1 u0;by_cases v0 : 0 <= ov
                 ·have f0 : decide (ov ≥ 0) = true := decide_eq_true v0;have f0' : decide (0 <= ov) = true := decide_eq_true v0;by_cases v1 : y.role = ov
                  ·have g0 : (y.role != ov) = false := by rw [bne_eq_false_iff_eq]; exact v1
                   clear v1;go_wp2_with fail
                   go_quiet ((go_at_call 109; exact Calls.quiet_of_same (HO1.out _)))
                   have HB9 : Hid (Below w.heap.size w (w8.drewN nq)) := below_drewN HB8.out nq;go_wp2;go_ret;exact ⟨0, rfl, fun _ => ⟨HOK.out, HU.out⟩, HB9.out⟩
                  ·have g0 : (y.role != ov) = true := bne_iff_ne.2 v1;go_wp2_with fail
                   go_quiet ((go_at_call 109; exact Calls.quiet_of_same (HO1.out _)))
                   have HB9 : Hid (Below w.heap.size w (w8.drewN nq)) := below_drewN HB8.out nq;go_wp2;go_ret;exact ⟨13, rfl, fun h => absurd h (by decide), HB9.out⟩
                 ·have f0 : decide (ov ≥ 0) = false := decide_eq_false v0;have f0' : decide (0 <= ov) = false := decide_eq_false v0;go_wp2_with fail
                  go_quiet ((go_at_call 109; exact Calls.quiet_of_same (HO1.out _)))
                  have HB9 : Hid (Below w.heap.size w (w8.drewN nq)) := below_drewN HB8.out nq;go_wp2;go_ret;exact ⟨0, rfl, fun _ => ⟨HOK.out, HU.out⟩, HB9.out⟩
                ·have e1 : (kd != kv) = true := bne_iff_ne.2 u1;go_wp2_with fail
                 go_quiet ((go_at_call 108; exact Calls.quiet_of_same (HK1.out _)))
                 have HB8 : Hid (Below w.heap.size w (w0.drewN nq)) := below_drewN HBW.out nq;go_wp2;go_ret;exact ⟨14, rfl, fun h => absurd h (by decide), HB8.out⟩
               ·have e0 : decide (kv ≥ 0) = false := decide_eq_false u0;have HU : Hid (0 <= kind11 rl -> kd = kind11 rl) := fun h => absurd (by rw [HKV.out] at h; exact h) u0
                have e0' : decide (0 <= kv) = false := decide_eq_false u0;go_wp2_with fail
                go_quiet ((go_at_call 108; exact Calls.quiet_of_same (HK1.out _)))
                have HB8 : Hid (Below w.heap.size w (w0.drewN nq)) := below_drewN HBW.out nq;have HB80 : Hid (Below W0.heap.size W0 (w0.drewN nq)) := below_drewN HB0.out nq;obtain ⟨w8, hw8⟩ : ∃ w8, w0.drewN nq = w8 := ⟨_, rfl⟩;rw [hw8] at HB8 HB80 |-;clear hw8 p0 p1 p2 p3 r0 r1 r2 r3;obtain ⟨p0, p1, p2, p3⟩ := HK.out w8 HB80.out;obtain ⟨r0, r1, r2, r3⟩ := hcells w8 HB8.out;clear e0 e0' u0;by_cases v0 : 0 <= ov
                ·have f0 : decide (ov ≥ 0) = true := decide_eq_true v0;have f0' : decide (0 <= ov) = true := decide_eq_true v0;by_cases v1 : y.role = ov
                 ·have g0 : (y.role != ov) = false := by rw [bne_eq_false_iff_eq]; exact v1
                  clear v1;go_wp2_with fail
                  go_quiet ((go_at_call 109; exact Calls.quiet_of_same (HO1.out _)))
                  have HB9 : Hid (Below w.heap.size w (w8.drewN nq)) := below_drewN HB8.out nq;go_wp2;go_ret;exact ⟨0, rfl, fun _ => ⟨HOK.out, HU.out⟩, HB9.out⟩
                 ·have g0 : (y.role != ov) = true := bne_iff_ne.2 v1;go_wp2_with fail
                  go_quiet ((go_at_call 109; exact Calls.quiet_of_same (HO1.out _)))
                  have HB9 : Hid (Below w.heap.size w (w8.drewN nq)) := below_drewN HB8.out nq;go_wp2;go_ret;exact ⟨13, rfl, fun h => absurd h (by decide), HB9.out⟩
                ·have f0 : decide (ov ≥ 0) = false := decide_eq_false v0;have f0' : decide (0 <= ov) = false := decide_eq_false v0;go_wp2_with fail
                 go_quiet ((go_at_call 109; exact Calls.quiet_of_same (HO1.out _)))
                 have HB9 : Hid (Below w.heap.size w (w8.drewN nq)) := below_drewN HB8.out nq;go_wp2;go_ret;exact ⟨0, rfl, fun _ => ⟨HOK.out, HU.out⟩, HB9.out⟩
theorem tier11_ok {A : Option Addr} {n c i : Nat} {T : List Ti} {w : World} (hT : TiersR w w.heap.size A n T) (hn : n <= 9223372036854775807) (hi : i < n) : ∃ t, T[i]? = some t /\
  Calls Tryz.prog 81 #[.slice A n c, .int .i64 i] w fun e w' => ∃ r : Int, e = .returned (.int .i64 r) /\ (r = 0 -> TOk t i) /\ Below w.heap.size w w' := by
 have hl : i < T.length := by rw [hT.len]; exact hi
 exact ⟨T[i], List.getElem?_eq_getElem hl, tier11_any A n c i T T[i] w hT hn hi (List.getElem?_eq_getElem hl)⟩
set_option maxHeartbeats 4000000 in
set_option maxRecDepth 100000 in
theorem check11_any (A : Option Addr) (n c : Nat) (T : List Ti) (w : World) (hT : TiersR w w.heap.size A n T) (hn : n <= 9223372036854775807) :
  Calls Tryz.prog 54 #[.slice A n c] w fun e w' => ∃ r : Int, e = .returned (.int .i64 r) /\ (r = 0 -> ∀ i t, T[i]? = some t -> TOk t i) /\ Below w.heap.size w w' := by
 have HT := hI hT;have HLN := hI hT.len;clear hT;by_cases h12 : n <= 12
 ·have hd : ¬ (12 : Int) < (n : Int) := by omega
  go_enter Tryz.func54, Tryz.ntmps54
  go_wp2_with fail
  go_loopw [3] (fun v3 wr => ∃ k : Nat, k <= n /\ v3 = .int .i64 k /\ Hid (∀ i t, i < k -> T[i]? = some t -> TOk t i) /\ Hid (Below w.heap.size w wr)) (fun v3 _ => n - (intOf v3).toNat)
  case atStart => exact ⟨0, Nat.zero_le _, rfl, fun i t h => by omega, Below.refl _ _⟩
  case round =>
   obtain ⟨k, hk, rfl, HP, HB0⟩ := hrel;by_cases hlt : k < n
   ·have hkz : (k : Int) < (n : Int) := by omega
    obtain ⟨t, ht, hc⟩ := tier11_ok (c := c) (HT.out.on HB0.out) hn hlt;have HC := hI hc;have HTK := hI ht;have HLT := hI hlt;clear ht hc;go_wp2_with fail
    refine HC.out.mono ?_;rintro e w1 ⟨r, rfl, hr, hb⟩;have HR := hI hr;have HB1 : Hid (Below w.heap.size w w1) := HB0.out.trans (hb.mono HB0.out.size);clear hb hr;by_cases h0 : r = 0
    ·subst h0
     have HP2 : Hid (∀ i t, i < k + 1 -> T[i]? = some t -> TOk t i) := fun i u hi hu => by
      by_cases e : i = k
      ·subst e;have := HTK.out;rw [hu] at this
       cases this;exact HR.out rfl
      ·exact HP.out i u (by omega) hu
     go_wp2;go_roundw
     case rel => exact ⟨k + 1, HLT.out, by go_num, HP2, HB1⟩
     case measure => have := HLT.out; simp [intOf]; omega
    ·have hb0 : (r != 0) = true := bne_iff_ne.2 h0;have H0 := hI h0;clear h0;go_wp2;go_ret;exact ⟨r, rfl, fun h => absurd h H0.out, HB1.out⟩
   ·obtain rfl : n = k := by omega
    have hkz : ¬ (n : Int) < (n : Int) := by omega
    have HY : Hid (∀ i t, T[i]? = some t -> TOk t i) := fun i t ht => HP.out i t (by rw [<- HLN.out]; exact (List.getElem?_eq_some_iff.1 ht).1) ht
    go_wp2;go_ret;exact ⟨0, rfl, fun _ => HY.out, HB0.out⟩
 ·have hd : (12 : Int) < (n : Int) := by omega
  have HB0 : Hid (Below w.heap.size w w) := Below.refl _ _;go_enter Tryz.func54, Tryz.ntmps54
  go_wp2;go_ret;exact ⟨11, rfl, fun h => absurd h (by decide), HB0.out⟩
set_option maxHeartbeats 2000000 in
set_option maxRecDepth 100000 in
theorem text12_any (s : ByteArray) (w : World) :
  Calls Tryz.prog 82 #[.string s] w fun e w' => ∃ r : Int, e = .returned (.int .i64 r) /\ (r = 0 -> s.size <= 200) /\ Below w.heap.size w w' := by
 by_cases h200 : s.size <= 200
 ·have hd : ¬ (200 : Int) < (s.size : Int) := by omega
  have H200 := hI h200;have HP := hI (points02_any s w (by omega));obtain ⟨o, ho⟩ : ∃ o, points s.data.toList = o := ⟨_, rfl⟩;rw [ho] at HP;clear ho;go_enter Tryz.func82, Tryz.ntmps82
  go_wp2_with fail
  refine HP.out.mono ?_;intro e w1 hpp;obtain ⟨A1, n1, c1, rfl, hir, hn1, hb⟩ := hpp.val;have HIR := hI hir;have HB1 : Hid (Below w.heap.size w w1) := hb;clear hpp hb hir HP
  cases o with
  | none =>
   go_wp2;go_ret;first | exact ⟨3, rfl, fun _ => H200.out, HB1.out⟩ | exact ⟨⟨3, rfl⟩, HB1.out⟩ | exact ⟨3, rfl, HB1.out⟩
  | some d =>
   go_wp2_with fail
   go_loop [5] (fun v5 => ∃ i : Nat, i <= n1 /\ v5 = .int .i64 i) (fun v5 => n1 - (intOf v5).toNat)
   case atStart => exact ⟨0, Nat.zero_le _, rfl⟩
   case round =>
    obtain ⟨i, hi, rfl⟩ := hrel;by_cases hlt : i < n1
    ·have hiz : (i : Int) < (n1 : Int) := by omega
     have hiA : (0 : Int) <= (i : Int) := by omega
     obtain ⟨ad, x, rfl, hab, hx, hc⟩ := HIR.out.at_ hlt;clear hx;by_cases h32 : x < 32
     ·have d32 : decide (x < 32) = true := decide_eq_true h32;go_wp2;go_ret;first | exact ⟨3, rfl, fun _ => H200.out, HB1.out⟩ | exact ⟨⟨3, rfl⟩, HB1.out⟩ | exact ⟨3, rfl, HB1.out⟩
     ·have d32 : decide (x < 32) = false := decide_eq_false h32
      cases hbe : (x == 127) with
      | true =>
       go_wp2;go_ret;first | exact ⟨3, rfl, fun _ => H200.out, HB1.out⟩ | exact ⟨⟨3, rfl⟩, HB1.out⟩ | exact ⟨3, rfl, HB1.out⟩
      | false =>
       go_wp2;go_round
       case rel => exact ⟨i + 1, by omega, by go_num⟩
       case measure => simp [intOf]; omega
    ·obtain rfl : n1 = i := by omega
     have hiz : ¬ (n1 : Int) < (n1 : Int) := by omega
     go_wp2;go_ret;first | exact ⟨0, rfl, fun _ => H200.out, HB1.out⟩ | exact ⟨⟨0, rfl⟩, HB1.out⟩ | exact ⟨0, rfl, HB1.out⟩
 ·have hd : (200 : Int) < (s.size : Int) := by omega
  have HB0 : Hid (Below w.heap.size w w) := Below.refl _ _;go_enter Tryz.func82, Tryz.ntmps82
  go_wp2;go_ret;exact ⟨5, rfl, fun h => absurd h (by decide), HB0.out⟩
set_option maxHeartbeats 1000000 in
set_option maxRecDepth 100000 in
theorem refGet_any (d : Dv) (l : List Nt) (id : Int) (w : World) (hl : NotesR w w.heap.size d.na d.nn l) (hn : d.nn <= 9223372036854775807) :
  Calls Tryz.prog 27 #[docV d, .int .i64 id] w fun e w' => e = .returned (getV (getN l id)) /\ Below w.heap.size w w' := by
 have HL := hI hl;have HLN := hI hl.len;clear hl;unfold docV;obtain ⟨rid, name, len, day, sa, sn, sc, ta, tn, tc, na, nn, nc⟩ := d;simp only at HL HLN hn |-;go_enter Tryz.func27, Tryz.ntmps27
 go_wp2_with fail
 obtain ⟨W0, hW0⟩ : ∃ W0, (w.alloc (.cells #[.int .i64 rid, .string name, .int .i64 len, .int .i64 day, .slice sa sn sc, .slice ta tn tc, .slice na nn nc] 38)).alloc (.cells #[.int .i64 0, .int .i64 0, .int .i64 0, .int .i64 0, .int .i64 0, .int .i64 0, .string ⟨#[]⟩] 58) = W0 := ⟨_, rfl⟩;have HB : Hid (Below w.heap.size w W0) := by rw [<- hW0]; exact ((Below.refl _ w).alloc (Nat.le_refl _) _).alloc (by simp) _
 have hz0 : W0.heap.size = w.heap.size + 1 + 1 := by rw [<- hW0]; simp
 have k6 : W0.cell? ⟨w.heap.size, 6, none⟩ = some (.slice na nn nc) := by rw [<- hW0, World.cell?_alloc_lt _ _ _ (by simp), World.cell?_alloc_new]; rfl
 have HTH : Hid (W0.there (w.heap.size + 1) 0 7) := by
  have h := there_new (w.alloc (.cells #[.int .i64 rid, .string name, .int .i64 len, .int .i64 day, .slice sa sn sc, .slice ta tn tc, .slice na nn nc] 38)) #[.int .i64 0, .int .i64 0, .int .i64 0, .int .i64 0, .int .i64 0, .int .i64 0, .string ⟨#[]⟩] 58;rw [hW0] at h;show W0.there _ _ _;simpa using h
 have HRG : Hid (W0.rangeAt (w.heap.size + 1) 0 (encN nt0)) := fun j v hv => by
  rw [<- hW0, Nat.zero_add];have h := World.cell?_alloc_new (w.alloc (.cells #[.int .i64 rid, .string name, .int .i64 len, .int .i64 day, .slice sa sn sc, .slice ta tn tc, .slice na nn nc] 38)) #[.int .i64 0, .int .i64 0, .int .i64 0, .int .i64 0, .int .i64 0, .int .i64 0, .string ⟨#[]⟩] 58 j;rw [show (w.alloc (.cells #[.int .i64 rid, .string name, .int .i64 len, .int .i64 day, .slice sa sn sc, .slice ta tn tc, .slice na nn nc] 38)).heap.size = w.heap.size + 1 by simp] at h;rw [h, <- hv, <- List.getElem?_toArray];rfl
 (try rw [hW0])
 clear hW0;go_loop [6] (fun v6 => ∃ i : Nat, i <= nn /\ v6 = .int .i64 i /\ Hid (∀ j y, j < i -> l[j]? = some y -> y.nid ≠ id)) (fun v6 => nn - (intOf v6).toNat)
 case atStart => exact ⟨0, Nat.zero_le _, rfl, fun j y h => by omega⟩
 case round =>
  obtain ⟨i, hi, rfl, HP⟩ := hrel;by_cases hlt : i < nn
  ·have hiz : (i : Int) < (nn : Int) := by omega
   have hiA : (0 : Int) <= (i : Int) := by omega
   obtain ⟨ad, x, rfl, hab, hx, hcells⟩ := HL.out.at_ hlt;obtain ⟨q0, q1, q2, q3, q4, q5, q6⟩ := hcells W0 HB.out;have HX := hI hx;have HI := hI hlt;clear hx hcells;by_cases he : x.nid = id
   ·have HG : Hid (getN l id = some x) := getN_here HP.out HX.out he;subst he;have hlt1 : w.heap.size + 1 < W0.heap.size := by omega
    have c0 : W0.cell? ⟨w.heap.size + 1, 0, none⟩ = some (.int .i64 0) := HRG.out 0 (.int .i64 0) rfl;have f0 : W0.frozen? ⟨w.heap.size + 1, 0, none⟩ = false := (HTH.out 0 (by omega)).2;have c1 : W0.cell? ⟨w.heap.size + 1, 1, none⟩ = some (.int .i64 0) := HRG.out 1 (.int .i64 0) rfl;have f1 : W0.frozen? ⟨w.heap.size + 1, 1, none⟩ = false := (HTH.out 1 (by omega)).2;have c2 : W0.cell? ⟨w.heap.size + 1, 2, none⟩ = some (.int .i64 0) := HRG.out 2 (.int .i64 0) rfl;have f2 : W0.frozen? ⟨w.heap.size + 1, 2, none⟩ = false := (HTH.out 2 (by omega)).2;have c3 : W0.cell? ⟨w.heap.size + 1, 3, none⟩ = some (.int .i64 0) := HRG.out 3 (.int .i64 0) rfl;have f3 : W0.frozen? ⟨w.heap.size + 1, 3, none⟩ = false := (HTH.out 3 (by omega)).2;have c4 : W0.cell? ⟨w.heap.size + 1, 4, none⟩ = some (.int .i64 0) := HRG.out 4 (.int .i64 0) rfl;have f4 : W0.frozen? ⟨w.heap.size + 1, 4, none⟩ = false := (HTH.out 4 (by omega)).2;have c5 : W0.cell? ⟨w.heap.size + 1, 5, none⟩ = some (.int .i64 0) := HRG.out 5 (.int .i64 0) rfl;have f5 : W0.frozen? ⟨w.heap.size + 1, 5, none⟩ = false := (HTH.out 5 (by omega)).2;have c6 : W0.cell? ⟨w.heap.size + 1, 6, none⟩ = some (.string ⟨#[]⟩) := HRG.out 6 (.string ⟨#[]⟩) rfl;have f6 : W0.frozen? ⟨w.heap.size + 1, 6, none⟩ = false := (HTH.out 6 (by omega)).2;go_wp2;(try simp only [Exit.inBlock, Exit.then])
    refine bodyPost_ret (v := getV (some x)) ?_ rfl ⟨by rw [HG.out], ?_⟩
    ·show _ = Result.ok (Value.tuple #[.agg (encN x).toArray, .bool true]) _;refine results_cell_of rfl _ _ (w.heap.size + 1) (encN x) _ _ ?_ ?_ ?_ Tryz.underlying58 rfl (by kernel_rfl)
     ·rfl
     ·rfl
     ·exact World.rangeAt_setCells_same W0 (w.heap.size + 1) 0 [.int .i64 x.nid, .int .i64 x.tier, .int .i64 x.parent, .int .i64 x.at1, .int .i64 x.at2, .int .i64 x.rank, .string x.text] HTH.out
    ·exact below_set (w := W0) (b := w.heap.size + 1) (o := 0) (vs := [.int .i64 x.nid, .int .i64 x.tier, .int .i64 x.parent, .int .i64 x.at1, .int .i64 x.at2, .int .i64 x.rank, .string x.text]) HB.out (by omega) (by omega)
   ·have hbe : (x.nid == id) = false := beq_eq_false_iff_ne.2 he;have HP2 := hI (pre_step HP.out HX.out he);go_wp2;go_round
    case rel => exact ⟨i + 1, HI.out, by go_num, HP2⟩
    case measure => have := HI.out; simp [intOf]; omega
  ·obtain rfl : nn = i := by omega
   have hiz : ¬ (nn : Int) < (nn : Int) := by omega
   have HG : Hid (getN l id = none) := getN_none fun j y hj => HP.out j y (by rw [<- HLN.out]; exact hj)
   have hlt1 : w.heap.size + 1 < W0.heap.size := by omega
   have c0 : W0.cell? ⟨w.heap.size + 1, 0, none⟩ = some (.int .i64 0) := HRG.out 0 (.int .i64 0) rfl;have f0 : W0.frozen? ⟨w.heap.size + 1, 0, none⟩ = false := (HTH.out 0 (by omega)).2;have c1 : W0.cell? ⟨w.heap.size + 1, 1, none⟩ = some (.int .i64 0) := HRG.out 1 (.int .i64 0) rfl;have f1 : W0.frozen? ⟨w.heap.size + 1, 1, none⟩ = false := (HTH.out 1 (by omega)).2;have c2 : W0.cell? ⟨w.heap.size + 1, 2, none⟩ = some (.int .i64 0) := HRG.out 2 (.int .i64 0) rfl;have f2 : W0.frozen? ⟨w.heap.size + 1, 2, none⟩ = false := (HTH.out 2 (by omega)).2;have c3 : W0.cell? ⟨w.heap.size + 1, 3, none⟩ = some (.int .i64 0) := HRG.out 3 (.int .i64 0) rfl;have f3 : W0.frozen? ⟨w.heap.size + 1, 3, none⟩ = false := (HTH.out 3 (by omega)).2;have c4 : W0.cell? ⟨w.heap.size + 1, 4, none⟩ = some (.int .i64 0) := HRG.out 4 (.int .i64 0) rfl;have f4 : W0.frozen? ⟨w.heap.size + 1, 4, none⟩ = false := (HTH.out 4 (by omega)).2;have c5 : W0.cell? ⟨w.heap.size + 1, 5, none⟩ = some (.int .i64 0) := HRG.out 5 (.int .i64 0) rfl;have f5 : W0.frozen? ⟨w.heap.size + 1, 5, none⟩ = false := (HTH.out 5 (by omega)).2;have c6 : W0.cell? ⟨w.heap.size + 1, 6, none⟩ = some (.string ⟨#[]⟩) := HRG.out 6 (.string ⟨#[]⟩) rfl;have f6 : W0.frozen? ⟨w.heap.size + 1, 6, none⟩ = false := (HTH.out 6 (by omega)).2;go_wp2;(try simp only [Exit.inBlock, Exit.then])
   refine bodyPost_ret (v := getV none) ?_ rfl ⟨by rw [HG.out], ?_⟩
   ·show _ = Result.ok (Value.tuple #[.agg (encN nt0).toArray, .bool false]) _;refine results_cell_of rfl _ _ (w.heap.size + 1) (encN nt0) _ _ ?_ ?_ ?_ Tryz.underlying58 rfl (by kernel_rfl)
    ·rfl
    ·rfl
    ·exact World.rangeAt_setCells_same W0 (w.heap.size + 1) 0 [.int .i64 0, .int .i64 0, .int .i64 0, .int .i64 0, .int .i64 0, .int .i64 0, .string ⟨#[]⟩] HTH.out
   ·exact below_set (w := W0) (b := w.heap.size + 1) (o := 0) (vs := [.int .i64 0, .int .i64 0, .int .i64 0, .int .i64 0, .int .i64 0, .int .i64 0, .string ⟨#[]⟩]) HB.out (by omega) (by omega)
theorem eq_span (a b : Int) (w : World) : (Op.equalIn 10000 56 (.agg #[.int .i64 a, .int .i64 b]) (.agg #[.int .i64 0, .int .i64 0])).run Tryz.prog w = .ok ((a == 0) && (b == 0)) w := by
 have h1 : ∀ (W : World) (x y : Int), (Op.equalIn 9999 3 (.int .i64 x) (.int .i64 y)).run Tryz.prog W = .ok (x == y) W := fun W x y => by
  rw [run_equalIn_int W 9998 _ _ .i64 x y Tryz.underlying3]
 rw [run_equalIn_struct w 9999 _ _ _ (by simp only [Program.fieldsOf, Tryz.underlying56]) (by kernel_rfl)]
 cases ha : (a == 0) <;> cases hb : (b == 0) <;> simp [Program.fieldsOf, Tryz.underlying56, Op.eqFields, part, h1, Tryz.isAgg3, Tryz.sizeOf3, ha, hb]
end
end Go.Proofs.YthcabnfcgjnlnaaGreatDoor
