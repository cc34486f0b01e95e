/-
  LayoutParts, walked.
-/
import Derived.Test.YtacfeabdeaikhaaDoorGLawA
namespace Go.Proofs.YtacfeabdeaikhaaDoor
open Go.RowKit Ru Lay
set_option linter.unusedVariables false
set_option linter.unusedSimpArgs false

theorem startOf_len {c : List Int} {W : Int} : startOf (groups c W) (groups c W).length = c.length := (groups_ok c W).last
theorem seg_small {c : List Int} (h : ∀ x ∈ c, 0 ≤ x ∧ x ≤ 4000) (f : Nat) : ∀ n, seg c f n ≤ 4001 * ((n : Int) + 1) - 1
  | 0 => by
    show max (c.getD f 0) 0 ≤ _
    cases hi : c[f]? with
    | none => rw [List.getD, hi]; show max (0 : Int) 0 ≤ _; omega
    | some x =>
      have := h x (List.mem_of_getElem? hi)
      rw [List.getD, hi]
      show max x 0 ≤ _
      omega
  | n + 1 => by
    have ih := seg_small h f n
    show seg c f n + 1 + max (c.getD (f + n + 1) 0) 0 ≤ _
    have h2 : max (c.getD (f + n + 1) 0) 0 ≤ 4000 := by
      cases hi : c[f + n + 1]? with
      | none => rw [List.getD, hi]; show max (0 : Int) 0 ≤ _; omega
      | some x =>
        have := h x (List.mem_of_getElem? hi)
        rw [List.getD, hi]
        show max x 0 ≤ _
        omega
    push_cast
    omega
theorem getD_pos {c : List Int} (h : ∀ x ∈ c, 0 ≤ x ∧ x ≤ 4000) {k : Nat} {x : Int} (hx : c[k]? = some x) : max (c.getD k 0) 0 = x := by
  have := h x (List.mem_of_getElem? hx)
  rw [List.getD, hx]
  show max x 0 = x
  omega
set_option maxHeartbeats 4000000 in
set_option maxRecDepth 100000 in
theorem parts_law (A : Option Addr) (n c : Nat) (l : List Int) (W : Int) (w : World) (hl : IR w w.heap.size A n l) (hn : n ≤ 9223372036854775807) (hr : ∀ x ∈ l, -9223372036854775808 ≤ x ∧ x ≤ 9223372036854775807) (hT : Tabs w) :
    Calls Tryd.prog 9 #[.slice A n c, .int .i64 W] w fun e w' => e = .returned (.bool true) ∧ Below w.heap.size w w' := by
  have HT := Lib.hid hT
  clear hT
  have HL := Lib.hid hl
  have HLN := Lib.hid hl.len
  have HRM : Hid (∀ x ∈ l, x ≤ 9223372036854775807) := fun x hx => (hr x hx).2
  clear hl hr
  by_cases hs : n ≤ 60
  · have hd : ¬ (60 : Int) < (n : Int) := by omega
    have hdd : decide ((60 : Int) < (n : Int)) = false := decide_eq_false hd
    by_cases hw1 : W < 0
    · have hd1 : decide (W < 0) = true := decide_eq_true hw1
      go_enter Tryd.func9, Tryd.ntmps9
      go_wp2_with fail
      refine (awake_any _ HT.out).mono ?_
      rintro e wz ⟨rfl, hbz⟩
      go_wp2
      go_ret
      exact ⟨rfl, hbz⟩
    · have hd1 : decide (W < 0) = false := decide_eq_false hw1
      by_cases hw2 : 1073741824 < W
      · have hd3 : decide (1073741824 < W) = true := decide_eq_true hw2
        go_enter Tryd.func9, Tryd.ntmps9
        go_wp2_with fail
        refine (awake_any _ HT.out).mono ?_
        rintro e wz ⟨rfl, hbz⟩
        go_wp2
        go_ret
        exact ⟨rfl, hbz⟩
      · have hd3 : decide (1073741824 < W) = false := decide_eq_false hw2
        go_enter Tryd.func9, Tryd.ntmps9
        go_wp2_with fail
        go_loop [5] (fun v5 => ∃ i : Nat, i ≤ n ∧ v5 = .int .i64 i ∧ Hid (∀ j x, j < i → l[j]? = some x → 0 ≤ x ∧ x ≤ 4000)) (fun v5 => n - (intOf v5).toNat)
        case atStart => exact ⟨0, Nat.zero_le _, rfl, fun j x h => by omega⟩
        case round =>
          obtain ⟨i, hi, rfl, HP⟩ := hrel
          by_cases hlt : i < n
          · have hiz : (i : Int) < (n : Int) := by omega
            have hiA : (0 : Int) ≤ (i : Int) := by omega
            obtain ⟨ad, x, rfl, hadb, hx, hcx⟩ := HL.out.at_ hlt
            have HX := Lib.hid hx
            clear hx
            by_cases hx1 : x < 0
            · have hx3 : decide (x < 0) = true := decide_eq_true hx1
              go_wp2_with fail
              refine (awake_any _ HT.out).mono ?_
              rintro e wz ⟨rfl, hbz⟩
              go_wp2
              go_ret
              exact ⟨rfl, hbz⟩
            · have hx3 : decide (x < 0) = false := decide_eq_false hx1
              by_cases hx2 : 4000 < x
              · have hx4 : decide (4000 < x) = true := decide_eq_true hx2
                go_wp2_with fail
                refine (awake_any _ HT.out).mono ?_
                rintro e wz ⟨rfl, hbz⟩
                go_wp2
                go_ret
                exact ⟨rfl, hbz⟩
              · have hx4 : decide (4000 < x) = false := decide_eq_false hx2
                have HP2 : Hid (∀ j x, j < i + 1 → l[j]? = some x → 0 ≤ x ∧ x ≤ 4000) := fun j t hj ht => by
                  by_cases e : j = i
                  · subst e
                    have := HX.out
                    rw [ht] at this
                    cases this
                    omega
                  · exact HP.out j t (by omega) ht
                go_wp2
                go_round
                case rel => exact ⟨i + 1, by omega, by go_num, HP2⟩
                case measure => simp [intOf]; omega
          · obtain rfl : n = i := by omega
            have hiz : ¬ (n : Int) < (n : Int) := by omega
            have HR : Hid (∀ x ∈ l, 0 ≤ x ∧ x ≤ 4000) := pre_all fun j x hj hx => HP.out j x (by rw [← HLN.out]; exact hj) hx
            clear HP
            go_wp2_with fail
            refine (groups_any A n c l W w HL.out (by omega) HRM.out (by omega)).mono ?_
            rintro e w1 ⟨v, rfl, hown, hb⟩
            have hgl := groups_len l W
            rw [HLN.out] at hgl
            obtain ⟨GA, gc, rfl, hgr⟩ := hown.form
            have hst := startOf_len (c := l) (W := W)
            have hgk := groups_ok l W
            obtain ⟨G, hG⟩ : ∃ G, groups l W = G := ⟨_, rfl⟩
            rw [hG] at hgr hgl hst hgk ⊢
            obtain ⟨ng, hng⟩ : ∃ ng, G.length = ng := ⟨_, rfl⟩
            have HNG := Lib.hid hng
            rw [hng] at hgr hgl hst ⊢
            rw [HLN.out] at hst
            have HST := Lib.hid hst
            have HGK := Lib.hid hgk
            have HGR := Lib.hid hgr
            have HB1 : Hid (Below w.heap.size w w1) := hb
            clear hgr hb hown hG hng hst hgk
            go_wp2_with fail
            go_loopw [7, 8] (fun v7 v8 wr => ∃ i : Nat, i ≤ ng ∧ v8 = .int .i64 i ∧ v7 = .int .i64 (startOf G i : Int) ∧ Hid (Below w1.heap.size w1 wr)) (fun _ v8 _ => ng - (intOf v8).toNat)
            case atStart => exact ⟨0, Nat.zero_le _, rfl, rfl, Below.refl _ _⟩
            case round =>
              obtain ⟨i, hi, rfl, rfl, HBR⟩ := hrel
              obtain ⟨w0, hw0⟩ : ∃ w0, w0 = wr := ⟨_, rfl⟩
              rw [← hw0] at HBR ⊢
              clear hw0
              have HB0 : Hid (Below w.heap.size w w0) := HB1.out.trans (HBR.out.mono HB1.out.size)
              by_cases hlt : i < ng
              · have hiz : (i : Int) < (ng : Int) := by omega
                have hiA : (0 : Int) ≤ (i : Int) := by omega
                obtain ⟨gd, p, rfl, hgb, hp, hc0', hc1'⟩ := HGR.out.at_ hlt
                obtain ⟨f, e⟩ := p
                have hc0 : w0.cell? (gd.add (i * 2)) = some (.int .i64 (f : Int)) := (HBR.out.cell (by rw [block_of_add]; exact hgb)).trans hc0'
                have hc1 : w0.cell? ⟨(gd.add (i * 2)).block, (gd.add (i * 2)).off + 1, none⟩ = some (.int .i64 (e : Int)) := (HBR.out.cell (p := ⟨(gd.add (i * 2)).block, (gd.add (i * 2)).off + 1, none⟩) (by show (gd.add (i * 2)).block < _; rw [block_of_add]; exact hgb)).trans hc1'
                obtain ⟨e1, e2, e3, e4, e5⟩ := HGK.out.each i f e hp
                rw [HLN.out] at e2
                have HSO : Hid (startOf G (i + 1) = e) := by
                  show (G.getD i (0, 0)).2 = e
                  rw [getD_at hp]
                rw [← e3]
                have hfn : f < n := by omega
                have hfz : (f : Int) < (n : Int) := by omega
                have hfA : (0 : Int) ≤ (f : Int) := by omega
                obtain ⟨ad, x, rfl, hadb, hx, hcx⟩ := HL.out.at_ hfn
                have hcx0 : w0.cell? (ad.add f) = some (.int .i64 x) := (HB0.out.cell (by rw [block_of_add]; exact hadb)).trans hcx
                have hxr := HR.out x (List.mem_of_getElem? hx)
                have HSF : Hid (x = seg l f 0) := (getD_pos HR.out hx).symm
                have t1 : ((f : Int) != (f : Int)) = false := bne_self_eq_false _
                have t2 : ((f : Int) == (f : Int)) = true := beq_self_eq_true _
                have t3 : ¬ (e : Int) ≤ (f : Int) := by omega
                have t3' : decide ((e : Int) ≤ (f : Int)) = false := decide_eq_false t3
                have t4 : ¬ (n : Int) < (e : Int) := by omega
                have t4' : decide ((n : Int) < (e : Int)) = false := decide_eq_false t4
                have HE4 := Lib.hid e4
                have HE5 := Lib.hid e5
                have HI := Lib.hid hlt
                have hgb0 : gd.block < w0.heap.size := Nat.lt_of_lt_of_le hgb HBR.out.size
                have hadb0 : ad.block < w0.heap.size := Nat.lt_of_lt_of_le hadb HB0.out.size
                clear hc0' hc1' hp e3 e4 e5 hx hcx
                go_wp2_with fail
                go_loop [9, 10] (fun v9 v10 => ∃ k : Nat, f + 1 ≤ k ∧ k ≤ e ∧ v10 = .int .i64 k ∧ v9 = .int .i64 (seg l f (k - f - 1))) (fun _ v10 => e - (intOf v10).toNat)
                case atStart => exact ⟨f + 1, by omega, by omega, by go_num, by rw [show f + 1 - f - 1 = 0 by omega]; exact congrArg (Value.int .i64) HSF.out⟩
                case round =>
                  obtain ⟨k, hk1, hk2, rfl, rfl⟩ := hrel
                  have hs1 := seg_small HR.out f (k - f - 1)
                  have hs2 := (seg_mono l f (k - f - 1)).1
                  have hs3 : ((k - f - 1 : Nat) : Int) + 1 ≤ 60 := by omega
                  have hsb : seg l f (k - f - 1) ≤ 240060 := by omega
                  clear hs1 hs3
                  by_cases hke : k < e
                  · have hkz : (k : Int) < (e : Int) := by omega
                    have hkA : (0 : Int) ≤ (k : Int) := by omega
                    have hkn : k < n := by omega
                    have hknz : (k : Int) < (n : Int) := by omega
                    obtain ⟨ad', y, e', hyb, hy, hcy⟩ := HL.out.at_ hkn
                    cases e'
                    have hcy1 : w0.cell? (ad.add k) = some (.int .i64 y) := (HB0.out.cell (by rw [block_of_add]; exact hyb)).trans hcy
                    have hyr := HR.out y (List.mem_of_getElem? hy)
                    have HSN : Hid (seg l f (k - f - 1) + 1 + y = seg l f (k + 1 - f - 1)) := by
                      show _ = _
                      rw [show k + 1 - f - 1 = (k - f - 1) + 1 by omega]
                      show _ = seg l f (k - f - 1) + 1 + max (l.getD (f + (k - f - 1) + 1) 0) 0
                      rw [show f + (k - f - 1) + 1 = k by omega, getD_pos HR.out hy]
                    clear hy hcy
                    go_wp2
                    go_round
                    case rel => exact ⟨k + 1, by omega, by omega, by go_num, by first | (rw [HSN.out]) | (rw [← HSN.out])⟩
                    case measure => simp [intOf]; omega
                  · obtain rfl : k = e := by omega
                    have hkz : ¬ (k : Int) < (k : Int) := by omega
                    obtain ⟨u, hu⟩ : ∃ u, seg l f (k - f - 1) = u := ⟨_, rfl⟩
                    rw [hu] at hs2 hsb ⊢
                    have hu1 : ¬ (1 < (k : Int) - (f : Int) ∧ W < u) := fun h => by
                      have := HE4.out (by omega)
                      rw [hu] at this
                      omega
                    have HU := Lib.hid hu
                    clear hu
                    have q0 : ∀ p : BW w0, p.at_.cell? (gd.add (i * 2)) = some (.int .i64 (f : Int)) := fun p => (p.bel.cell (by rw [block_of_add]; exact hgb0)).trans hc0
                    have q1 : ∀ p : BW w0, p.at_.cell? ⟨(gd.add (i * 2)).block, (gd.add (i * 2)).off + 1, none⟩ = some (.int .i64 (k : Int)) := fun p => (p.bel.cell (p := ⟨(gd.add (i * 2)).block, (gd.add (i * 2)).off + 1, none⟩) (by show (gd.add (i * 2)).block < _; rw [block_of_add]; exact hgb0)).trans hc1
                    have hkA : (0 : Int) ≤ (k : Int) := by omega
                    have hkf : wrap64 ((k : Int) - (f : Int)) = (k : Int) - (f : Int) := by unfold wrap64; omega
                    have hkf2 : IntKind.i64.wrap ((k : Int) - (f : Int)) = (k : Int) - (f : Int) := IntWalk.i64_in _ (by omega)
                    by_cases hkn : k < n
                    · have hknz : (k : Int) < (n : Int) := by omega
                      obtain ⟨ad', y, e', hyb, hy, hcy⟩ := HL.out.at_ hkn
                      cases e'
                      have q2 : ∀ p : BW w0, p.at_.cell? (ad.add k) = some (.int .i64 y) := fun p => ((HB0.out.trans (p.bel.mono HB0.out.size)).cell (by rw [block_of_add]; exact hyb)).trans hcy
                      have hyr := HR.out y (List.mem_of_getElem? hy)
                      have hu2 : ¬ u + 1 + y ≤ W := by
                        have h1 := HE5.out (by
                          rw [HNG.out]
                          by_cases h9 : i + 1 = ng
                          · exfalso
                            have h8 := HST.out
                            rw [← h9, HSO.out] at h8
                            omega
                          · have := HI.out
                            omega)
                        rw [HU.out, getD_pos HR.out hy] at h1
                        omega
                      have hd4 : decide (u + 1 + y ≤ W) = false := decide_eq_false hu2
                      clear hy hcy
                      by_cases hkf3 : 1 < (k : Int) - (f : Int)
                      · have hd5 : decide (1 < (k : Int) - (f : Int)) = true := decide_eq_true hkf3
                        have hd6 : decide (W < u) = false := decide_eq_false fun h => hu1 ⟨hkf3, h⟩
                        clear hu1 hu2
                        go_wp2_with fail
                        refine wp_region_quiet_below (by kernel_rfl) (by kernel_rfl) ?_
                        repeat (go_big_quiet_step (fail))
                        refine wpQuiet_nil ?_
                        intro w2 hw'
                        have hb2 := bw_below hw'
                        have HB2 : Hid (Below w1.heap.size w1 w2) := HBR.out.trans (hb2.mono HBR.out.size)
                        have hi1 : i + 1 ≤ ng := HI.out
                        clear hw' hb2 q0 q1 q2
                        go_wp2
                        go_roundw
                        case rel => exact ⟨i + 1, hi1, by go_num, by rw [HSO.out], HB2⟩
                        case measure => have := HI.out; simp [intOf]; omega
                      · have hd5 : decide (1 < (k : Int) - (f : Int)) = false := decide_eq_false hkf3
                        clear hu1 hu2
                        go_wp2_with fail
                        refine wp_region_quiet_below (by kernel_rfl) (by kernel_rfl) ?_
                        repeat (go_big_quiet_step (fail))
                        refine wpQuiet_nil ?_
                        intro w2 hw'
                        have hb2 := bw_below hw'
                        have HB2 : Hid (Below w1.heap.size w1 w2) := HBR.out.trans (hb2.mono HBR.out.size)
                        have hi1 : i + 1 ≤ ng := HI.out
                        clear hw' hb2 q0 q1 q2
                        go_wp2
                        go_roundw
                        case rel => exact ⟨i + 1, hi1, by go_num, by rw [HSO.out], HB2⟩
                        case measure => have := HI.out; simp [intOf]; omega
                    · have hknz : ¬ (k : Int) < (n : Int) := by omega
                      by_cases hkf3 : 1 < (k : Int) - (f : Int)
                      · have hd5 : decide (1 < (k : Int) - (f : Int)) = true := decide_eq_true hkf3
                        have hd6 : decide (W < u) = false := decide_eq_false fun h => hu1 ⟨hkf3, h⟩
                        clear hu1
                        go_wp2_with fail
                        refine wp_region_quiet_below (by kernel_rfl) (by kernel_rfl) ?_
                        repeat (go_big_quiet_step (fail))
                        refine wpQuiet_nil ?_
                        intro w2 hw'
                        have hb2 := bw_below hw'
                        have HB2 : Hid (Below w1.heap.size w1 w2) := HBR.out.trans (hb2.mono HBR.out.size)
                        have hi1 : i + 1 ≤ ng := HI.out
                        clear hw' hb2 q0 q1
                        go_wp2
                        go_roundw
                        case rel => exact ⟨i + 1, hi1, by go_num, by rw [HSO.out], HB2⟩
                        case measure => have := HI.out; simp [intOf]; omega
                      · have hd5 : decide (1 < (k : Int) - (f : Int)) = false := decide_eq_false hkf3
                        clear hu1
                        go_wp2_with fail
                        refine wp_region_quiet_below (by kernel_rfl) (by kernel_rfl) ?_
                        repeat (go_big_quiet_step (fail))
                        refine wpQuiet_nil ?_
                        intro w2 hw'
                        have hb2 := bw_below hw'
                        have HB2 : Hid (Below w1.heap.size w1 w2) := HBR.out.trans (hb2.mono HBR.out.size)
                        have hi1 : i + 1 ≤ ng := HI.out
                        clear hw' hb2 q0 q1
                        go_wp2
                        go_roundw
                        case rel => exact ⟨i + 1, hi1, by go_num, by rw [HSO.out], HB2⟩
                        case measure => have := HI.out; simp [intOf]; omega
              · obtain rfl : ng = i := by omega
                have hiz : ¬ (ng : Int) < (ng : Int) := by omega
                rw [HST.out]
                have heq : ((n : Int) == (n : Int)) = true := beq_self_eq_true _
                go_wp2_with fail
                refine (awake_any _ (HT.out.on HB0.out)).mono ?_
                rintro e wz ⟨rfl, hbz⟩
                go_wp2
                go_ret
                exact ⟨rfl, HB0.out.trans (hbz.mono HB0.out.size)⟩
  · have hd : (60 : Int) < (n : Int) := by omega
    have hdd : decide ((60 : Int) < (n : Int)) = true := decide_eq_true hd
    go_enter Tryd.func9, Tryd.ntmps9
    go_wp2_with fail
    refine (awake_any _ HT.out).mono ?_
    rintro e wz ⟨rfl, hbz⟩
    go_wp2
    go_ret
    exact ⟨rfl, hbz⟩
end Go.Proofs.YtacfeabdeaikhaaDoor
