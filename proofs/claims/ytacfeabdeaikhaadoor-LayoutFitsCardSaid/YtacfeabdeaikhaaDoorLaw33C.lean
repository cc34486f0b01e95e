/-
  LayoutFits, walked.
-/
import Derived.Test.YtacfeabdeaikhaaDoorLaw33B
namespace Go.Proofs.YtacfeabdeaikhaaDoor
open Go.RowKit Ru Lay
set_option linter.unusedVariables false
set_option linter.unusedSimpArgs false

/-- The sum of the first i columns, with blanks between them. -/
def allK (L : List (List ByteArray)) : Nat → Int
  | 0 => -1
  | i + 1 => allK L i + 1 + (colAt L i : Int)
theorem allK_seg (L : List (List ByteArray)) : ∀ i, allK L (i + 1) = seg (cols L) 0 i
  | 0 => by
    show -1 + 1 + (colAt L 0 : Int) = max ((cols L).getD 0 0) 0
    rw [cols_getD]
    omega
  | i + 1 => by
    show allK L (i + 1) + 1 + (colAt L (i + 1) : Int) = seg (cols L) 0 i + 1 + max ((cols L).getD (0 + i + 1) 0) 0
    rw [allK_seg L i, cols_getD, Nat.zero_add]
    omega
theorem allK_rng {L : List (List ByteArray)} (h : ∀ k, colAt L k ≤ 60) : ∀ i, -1 ≤ allK L i ∧ allK L i ≤ 61 * (i : Int) - 1
  | 0 => by show -1 ≤ (-1 : Int) ∧ (-1 : Int) ≤ _; omega
  | i + 1 => by
    have ih := allK_rng h i
    have := h i
    show -1 ≤ allK L i + 1 + (colAt L i : Int) ∧ allK L i + 1 + (colAt L i : Int) ≤ 61 * ((i + 1 : Nat) : Int) - 1
    omega
theorem few_col {L : List (List ByteArray)} (h : Few L) (k : Nat) : colAt L k ≤ 60 := colAt_le fun r hr s hs => (h.2 r hr).2 s hs
theorem few_nmax {L : List (List ByteArray)} (h : Few L) : nmax L ≤ 12 := nmax_le fun r hr => (h.2 r hr).1
set_option maxHeartbeats 4000000 in
set_option maxRecDepth 100000 in
theorem fits_law (A : Option Addr) (n c : Nat) (L : List (List ByteArray)) (W : Int) (w : World) (hL : RowsR w w.heap.size A n L) (hn : n ≤ 9223372036854775807) (hT : Tabs w) :
    Calls Tryd.prog 11 #[.slice A n c, .int .i64 W] w fun e w' => e = .returned (.bool true) ∧ Below w.heap.size w w' := by
  have HT := Lib.hid hT
  clear hT
  have HL := Lib.hid hL
  have HLN := Lib.hid hL.len
  clear hL
  by_cases hf : Few L
  · have HF := Lib.hid (few_yes (c := c) HL.out hn hf)
    have HZ := Lib.hid hf.sz
    have HN := Lib.hid hf.1
    have HWS := Lib.hid (wrapL_small W hf)
    have hnm := few_nmax hf
    have HCK := Lib.hid (few_col hf)
    have HCM : Hid (∀ x ∈ cols L, x ≤ 9223372036854775807) := fun x hx => by
      obtain ⟨k, _, rfl⟩ := List.mem_map.1 hx
      have := few_col hf k
      omega
    have hn20 : n ≤ 20 := by rw [← HLN.out]; exact hf.1
    clear hf
    by_cases hw1 : W < 0
    · have hd1 : decide (W < 0) = true := decide_eq_true hw1
      go_enter Tryd.func11, Tryd.ntmps11
      go_wp2_with fail
      refine HF.out.mono ?_
      rintro e w0 ⟨rfl, rfl⟩
      go_wp2_with fail
      refine (awake_any _ HT.out).mono ?_
      rintro e wz ⟨rfl, hbz⟩
      go_wp2
      go_ret
      exact ⟨rfl, hbz⟩
    · have hd1 : decide (W < 0) = false := decide_eq_false hw1
      by_cases hw2 : 10000 < W
      · have hd3 : decide (10000 < W) = true := decide_eq_true hw2
        go_enter Tryd.func11, Tryd.ntmps11
        go_wp2_with fail
        refine HF.out.mono ?_
        rintro e w0 ⟨rfl, rfl⟩
        go_wp2_with fail
        refine (awake_any _ HT.out).mono ?_
        rintro e wz ⟨rfl, hbz⟩
        go_wp2
        go_ret
        exact ⟨rfl, hbz⟩
      · have hd3 : decide (10000 < W) = false := decide_eq_false hw2
        go_enter Tryd.func11, Tryd.ntmps11
        go_wp2_with fail
        refine HF.out.mono ?_
        rintro e w0 ⟨rfl, rfl⟩
        go_wp2_with fail
        refine (columns_any A n c L w HL.out HZ.out HT.out).mono ?_
        rintro e w1 ⟨v, rfl, hown, hb⟩
        obtain ⟨A1, c1, rfl, _, _, hs⟩ := hown.form
        rw [cols_len] at hs ⊢
        obtain ⟨N, hN⟩ : ∃ N, nmax L = N := ⟨_, rfl⟩
        have HNN := Lib.hid hN
        rw [hN] at hs hnm ⊢
        have HS1 := Lib.hid hs
        have HB1 : Hid (Below w.heap.size w w1) := hb
        clear hown hs hb hN
        go_wp2_with fail
        go_loop [6, 7] (fun v6 v7 => ∃ i : Nat, i ≤ N ∧ v7 = .int .i64 i ∧ v6 = .int .i64 (allK L i)) (fun _ v7 => N - (intOf v7).toNat)
        case atStart => exact ⟨0, Nat.zero_le _, rfl, rfl⟩
        case round =>
          obtain ⟨i, hi, rfl, rfl⟩ := hrel
          have hak := allK_rng HCK.out i
          by_cases hlt : i < N
          · have hiz : (i : Int) < (N : Int) := by omega
            have hiA : (0 : Int) ≤ (i : Int) := by omega
            obtain ⟨cd, x, rfl, hcb, hx, hcx⟩ := HS1.out.at_ hlt
            obtain rfl : x = (colAt L i : Int) := by
              rw [cols_at (by rw [HNN.out]; exact hlt)] at hx
              exact (Option.some.inj hx).symm
            have hck := HCK.out i
            have HAN : Hid (allK L i + 1 + (colAt L i : Int) = allK L (i + 1)) := rfl
            clear hx
            go_wp2
            go_round
            case rel => exact ⟨i + 1, by omega, by go_num, by first | rfl | (rw [← HAN.out]) | (rw [← HAN.out]; exact congrArg (Value.int .i64) (by omega))⟩
            case measure => simp [intOf]; omega
          · obtain rfl : N = i := by omega
            have hiz : ¬ (N : Int) < (N : Int) := by omega
            go_wp2_with fail
            refine (wrap_any A n c L W w1 (HL.out.on HB1.out) HZ.out (by omega) (HT.out.on HB1.out)).mono ?_
            rintro e w2 ⟨v, rfl, hown, hb⟩
            obtain ⟨A2, c2, rfl, _, _, hs⟩ := hown.form
            have HS2 := Lib.hid hs
            have HS3 := Lib.hid (IR.on HS1.out hb)
            have HB2 : Hid (Below w.heap.size w w2) := HB1.out.trans (hb.mono HB1.out.size)
            clear hown hs hb
            by_cases hN0 : N = 0
            · skip
              have he0 : ((N : Int) == 0) = true := beq_iff_eq.2 (by omega)
              have hw0 := wrapL_none (W := W) (by rw [HNN.out]; exact hN0)
              rw [hw0] at HS2 ⊢
              have HN0 := Lib.hid hN0
              clear hw0 hN0 hak
              go_wp2_with fail
              refine (awake_any _ (HT.out.on HB2.out)).mono ?_
              rintro e wz ⟨rfl, hbz⟩
              go_wp2
              go_ret
              exact ⟨rfl, HB2.out.trans (hbz.mono HB2.out.size)⟩
            · skip
              have hNp : 0 < N := by omega
              have he0 : ((N : Int) == 0) = false := beq_eq_false_iff_ne.2 (by omega)
              have hnz : ¬ N = 0 := by omega
              have hak2 : allK L N = seg (cols L) 0 (N - 1) := by
                obtain ⟨m, hm⟩ : ∃ m, N = m + 1 := ⟨N - 1, by omega⟩
                rw [hm, allK_seg]
                rfl
              by_cases hfit : allK L N ≤ W
              · have hd2 : decide (allK L N ≤ W) = true := decide_eq_true hfit
                have HWE : Hid (wrapL L W = alignL L) := wrapL_all (by rw [HNN.out]; exact hNp) (by rw [HNN.out, ← hak2]; exact hfit)
                have HS5 : Hid (SR w2 w2.heap.size A2 (wrapL L W).length (alignL L)) := by
                  have h0 := HS2.out
                  rw [HWE.out] at h0
                  rw [HWE.out]
                  exact h0
                clear hak2
                go_wp2_with fail
                refine (align_any A n c L w2 (HL.out.on HB2.out) HZ.out (HT.out.on HB2.out)).mono ?_
                rintro e w2b ⟨v, rfl, hown, hb⟩
                obtain ⟨A3, c3, rfl, _, _, hs⟩ := hown.form
                have HSA := Lib.hid hs
                have HSB := Lib.hid (SR.on HS5.out hb)
                have HSC := Lib.hid (IR.on HS3.out hb)
                have HB2b : Hid (Below w.heap.size w w2b) := HB2.out.trans (hb.mono HB2.out.size)
                clear hown hs hb
                have hws := HWS.out
                have hal := alignL_len L
                have HSM := Lib.hid (equal_strs A2 A3 (wrapL L W).length (alignL L).length c2 c3 _ _ w2b HSB.out HSA.out (by omega) (by rw [hal]; have := HN.out; omega))
                rw [decide_eq_true rfl] at HSM
                clear hws hal
                go_wp2_with fail
                refine HSM.out.mono ?_
                rintro e w3' ⟨rfl, k, rfl⟩
                obtain ⟨w3, hw3⟩ : ∃ w3, w3 = w2b.drewN k := ⟨_, rfl⟩
                have HB3 : Hid (Below w.heap.size w w3) := by rw [hw3]; exact below_drewN HB2b.out _
                have HS4 : Hid (IR w3 w3.heap.size A1 N (cols L)) := by rw [hw3]; exact IR.on HSC.out (below_drewN (Below.refl _ _) _)
                rw [← hw3]
                clear hw3
                go_wp2_with fail
                refine (groups_any A1 N c1 (cols L) W w3 HS4.out (by omega) HCM.out (by omega)).mono ?_
                rintro e w4 ⟨v, rfl, hown, hb⟩
                obtain ⟨A4, c4, rfl, hg⟩ := hown.form
                have HB4 : Hid (Below w.heap.size w w4) := HB3.out.trans (hb.mono HB3.out.size)
                clear hown hg hb
                have hlen := wrapL_len (W := W) (by rw [HNN.out]; exact hNp)
                have hgp := groups_pos (c := cols L) (W := W) (by rw [cols_len, HNN.out]; exact hNp)
                have hgl := groups_len (cols L) W
                rw [cols_len, HNN.out] at hgl
                rw [HLN.out] at hlen
                obtain ⟨ng, hng⟩ : ∃ ng, (groups (cols L) W).length = ng := ⟨_, rfl⟩
                rw [hng] at hlen hgp hgl ⊢
                obtain ⟨wl, hwl⟩ : ∃ wl, (wrapL L W).length = wl := ⟨_, rfl⟩
                rw [hwl] at hlen ⊢
                have hm1 : ng * n ≤ 12 * 20 := Nat.mul_le_mul (by omega) (by omega)
                have hm2 : (ng : Int) * (n : Int) = ((ng * n : Nat) : Int) := by push_cast; rfl
                have hm3 : (0 : Int) ≤ (ng : Int) * (n : Int) := by rw [hm2]; omega
                have hm4 : (ng : Int) * (n : Int) ≤ 240 := by rw [hm2]; omega
                have heq : ((wl : Int) == (ng : Int) * (n : Int) + (ng : Int) - 1) = true := beq_iff_eq.2 (by rw [hm2]; omega)
                clear hm1 hm2 hlen hng hwl hak
                go_wp2_with fail
                refine (awake_any _ (HT.out.on HB4.out)).mono ?_
                rintro e wz ⟨rfl, hbz⟩
                go_wp2
                go_ret
                exact ⟨rfl, HB4.out.trans (hbz.mono HB4.out.size)⟩
              · have hd2 : decide (allK L N ≤ W) = false := decide_eq_false hfit
                have HB3 := HB2
                have HS4 := HS3
                clear hak2
                go_wp2_with fail
                refine (groups_any A1 N c1 (cols L) W w2 HS4.out (by omega) HCM.out (by omega)).mono ?_
                rintro e w4 ⟨v, rfl, hown, hb⟩
                obtain ⟨A4, c4, rfl, hg⟩ := hown.form
                have HB4 : Hid (Below w.heap.size w w4) := HB3.out.trans (hb.mono HB3.out.size)
                clear hown hg hb
                have hlen := wrapL_len (W := W) (by rw [HNN.out]; exact hNp)
                have hgp := groups_pos (c := cols L) (W := W) (by rw [cols_len, HNN.out]; exact hNp)
                have hgl := groups_len (cols L) W
                rw [cols_len, HNN.out] at hgl
                rw [HLN.out] at hlen
                obtain ⟨ng, hng⟩ : ∃ ng, (groups (cols L) W).length = ng := ⟨_, rfl⟩
                rw [hng] at hlen hgp hgl ⊢
                obtain ⟨wl, hwl⟩ : ∃ wl, (wrapL L W).length = wl := ⟨_, rfl⟩
                rw [hwl] at hlen ⊢
                have hm1 : ng * n ≤ 12 * 20 := Nat.mul_le_mul (by omega) (by omega)
                have hm2 : (ng : Int) * (n : Int) = ((ng * n : Nat) : Int) := by push_cast; rfl
                have hm3 : (0 : Int) ≤ (ng : Int) * (n : Int) := by rw [hm2]; omega
                have hm4 : (ng : Int) * (n : Int) ≤ 240 := by rw [hm2]; omega
                have heq : ((wl : Int) == (ng : Int) * (n : Int) + (ng : Int) - 1) = true := beq_iff_eq.2 (by rw [hm2]; omega)
                clear hm1 hm2 hlen hng hwl hak
                go_wp2_with fail
                refine (awake_any _ (HT.out.on HB4.out)).mono ?_
                rintro e wz ⟨rfl, hbz⟩
                go_wp2
                go_ret
                exact ⟨rfl, HB4.out.trans (hbz.mono HB4.out.size)⟩
  · have HF := Lib.hid (few_no (c := c) HL.out hn hf)
    clear hf
    go_enter Tryd.func11, Tryd.ntmps11
    go_wp2_with fail
    refine HF.out.mono ?_
    rintro e w0 ⟨rfl, rfl⟩
    go_wp2_with fail
    refine (awake_any _ HT.out).mono ?_
    rintro e wz ⟨rfl, hbz⟩
    go_wp2
    go_ret
    exact ⟨rfl, hbz⟩
end Go.Proofs.YtacfeabdeaikhaaDoor
