/-
  The laws of the chapter on layout, walked: each returns true, and nothing that was there has changed.
-/
import Derived.Test.YtacfeabdeaikhaaDoorAwake33
namespace Go.Proofs.YtacfeabdeaikhaaDoor
open Go.RowKit Ru Lay
set_option linter.unusedVariables false
set_option linter.unusedSimpArgs false

theorem SR.on' {w w' : World} {n : Nat} {A : Option Addr} {l : List ByteArray} (h : SR w w.heap.size A n l) (hb : Below w.heap.size w w') : SR w' w'.heap.size A n l := SR.on h hb
set_option maxHeartbeats 4000000 in
set_option maxRecDepth 100000 in
theorem width_law (s : ByteArray) (n : Int) (w : World)  (hT : Tabs w) :
    Calls Tryd.prog 3 #[.string s, .int .i64 n] w fun e w' => e = .returned (.bool true) ∧ Below w.heap.size w w' := by
  have HT := Lib.hid hT
  clear hT
  by_cases hs : s.size ≤ 2000
  · have hd : ¬ (2000 : Int) < (s.size : Int) := by omega
    have HB0 : Hid (Below w.heap.size w w) := Below.refl _ _
    go_enter Tryd.func3, Tryd.ntmps3
    go_wp2_with fail
    refine (width_any s w (by omega) HT.out).mono ?_
    rintro e w1 ⟨rfl, hb⟩
    have HB1 : Hid (Below w.heap.size w w1) := HB0.out.trans (hb.mono HB0.out.size)
    clear hb
    go_wp2_with fail
    refine (refWidth_any s w1 (by omega)).mono ?_
    rintro e w2 ⟨rfl, hb⟩
    have HB2 : Hid (Below w.heap.size w w2) := HB1.out.trans (hb.mono HB1.out.size)
    clear hb
    go_wp2_with fail
    refine (pad_any s n w2 (by omega) (HT.out.on HB2.out)).mono ?_
    rintro e w3 ⟨rfl, hb⟩
    have HB3 : Hid (Below w.heap.size w w3) := HB2.out.trans (hb.mono HB2.out.size)
    clear hb
    go_wp2_with fail
    refine (refPad_any s n w3 (by omega)).mono ?_
    rintro e w4 ⟨rfl, hb⟩
    have HB4 : Hid (Below w.heap.size w w4) := HB3.out.trans (hb.mono HB3.out.size)
    clear hb
    go_wp2_with fail
    refine (awake_any _ (HT.out.on HB4.out)).mono ?_
    rintro e wz ⟨rfl, hbz⟩
    go_wp2
    go_ret
    exact ⟨rfl, HB4.out.trans (hbz.mono HB4.out.size)⟩
  · have hd : (2000 : Int) < (s.size : Int) := by omega
    go_enter Tryd.func3, Tryd.ntmps3
    go_wp2_with fail
    refine (awake_any _ HT.out).mono ?_
    rintro e wz ⟨rfl, hbz⟩
    go_wp2
    go_ret
    exact ⟨rfl, hbz⟩
set_option maxHeartbeats 4000000 in
set_option maxRecDepth 100000 in
theorem columns_law (A : Option Addr) (n c : Nat) (L : List (List ByteArray)) (w : World) (hL : RowsR w w.heap.size A n L) (hn : n ≤ 9223372036854775807) (hT : Tabs w) :
    Calls Tryd.prog 4 #[.slice A n c] w fun e w' => e = .returned (.bool true) ∧ Below w.heap.size w w' := by
  have HT := Lib.hid hT
  clear hT
  have HL := Lib.hid hL
  clear hL
  by_cases hf : Few L
  · have HF := Lib.hid (few_yes (c := c) HL.out hn hf)
    have HZ := Lib.hid hf.sz
    have HN := Lib.hid hf.1
    clear hf
    have HB0 : Hid (Below w.heap.size w w) := Below.refl _ _
    go_enter Tryd.func4, Tryd.ntmps4
    go_wp2_with fail
    refine HF.out.mono ?_
    rintro e w1 ⟨rfl, rfl⟩
    go_wp2_with fail
    refine (columns_any A n c L w HL.out HZ.out HT.out).mono ?_
    rintro e w1 ⟨v, rfl, hown, hb⟩
    obtain ⟨A1, c1, rfl, _, _, hs⟩ := hown.form
    have HS1 := Lib.hid hs
    have HB1 : Hid (Below w.heap.size w w1) := HB0.out.trans (hb.mono HB0.out.size)
    clear hown hs hb
    go_wp2_with fail
    refine (refColumns_any A n c L w1 (HL.out.on HB1.out) HZ.out).mono ?_
    rintro e w2 ⟨v, rfl, hown, hb⟩
    obtain ⟨A2, c2, rfl, _, _, hs⟩ := hown.form
    have HS2 := Lib.hid hs
    have HB2 : Hid (Below w.heap.size w w2) := HB1.out.trans (hb.mono HB1.out.size)
    have HS1' := Lib.hid (IR.on HS1.out hb)
    clear HS1
    have HS1 := HS1'
    clear HS1'
    clear hown hs hb
    have HSM := Lib.hid (same_ints A1 A2 (cols L).length (cols L).length c1 c2 _ _ w2 HS1.out HS2.out (by rw [cols_len]; have := HZ.out.nmax; omega) (by rw [cols_len]; have := HZ.out.nmax; omega))
    rw [beq_self_eq_true] at HSM
    go_wp2_with fail
    refine HSM.out.mono ?_
    rintro e w3 ⟨rfl, k, rfl⟩
    have HB3 : Hid (Below w.heap.size w (w2.drewN k)) := below_drewN HB2.out _
    go_wp2_with fail
    refine (awake_any _ (HT.out.on HB3.out)).mono ?_
    rintro e wz ⟨rfl, hbz⟩
    go_wp2
    go_ret
    exact ⟨rfl, HB3.out.trans (hbz.mono HB3.out.size)⟩
  · have HF := Lib.hid (few_no (c := c) HL.out hn hf)
    clear hf
    go_enter Tryd.func4, Tryd.ntmps4
    go_wp2_with fail
    refine HF.out.mono ?_
    rintro e w1 ⟨rfl, rfl⟩
    go_wp2_with fail
    refine (awake_any _ HT.out).mono ?_
    rintro e wz ⟨rfl, hbz⟩
    go_wp2
    go_ret
    exact ⟨rfl, hbz⟩
set_option maxHeartbeats 4000000 in
set_option maxRecDepth 100000 in
theorem aligns_law (A : Option Addr) (n c : Nat) (L : List (List ByteArray)) (w : World) (hL : RowsR w w.heap.size A n L) (hn : n ≤ 9223372036854775807) (hT : Tabs w) :
    Calls Tryd.prog 6 #[.slice A n c] w fun e w' => e = .returned (.bool true) ∧ Below w.heap.size w w' := by
  have HT := Lib.hid hT
  clear hT
  have HL := Lib.hid hL
  clear hL
  by_cases hf : Few L
  · have HF := Lib.hid (few_yes (c := c) HL.out hn hf)
    have HZ := Lib.hid hf.sz
    have HN := Lib.hid hf.1
    clear hf
    have HB0 : Hid (Below w.heap.size w w) := Below.refl _ _
    go_enter Tryd.func6, Tryd.ntmps6
    go_wp2_with fail
    refine HF.out.mono ?_
    rintro e w1 ⟨rfl, rfl⟩
    go_wp2_with fail
    refine (align_any A n c L w HL.out HZ.out HT.out).mono ?_
    rintro e w1 ⟨v, rfl, hown, hb⟩
    obtain ⟨A1, c1, rfl, _, _, hs⟩ := hown.form
    have HS1 := Lib.hid hs
    have HB1 : Hid (Below w.heap.size w w1) := HB0.out.trans (hb.mono HB0.out.size)
    clear hown hs hb
    go_wp2_with fail
    refine (refAlign_any A n c L w1 (HL.out.on HB1.out) HZ.out).mono ?_
    rintro e w2 ⟨v, rfl, hown, hb⟩
    obtain ⟨A2, c2, rfl, _, _, hs⟩ := hown.form
    have HS2 := Lib.hid hs
    have HB2 : Hid (Below w.heap.size w w2) := HB1.out.trans (hb.mono HB1.out.size)
    have HS1' := Lib.hid (SR.on HS1.out hb)
    clear HS1
    have HS1 := HS1'
    clear HS1'
    clear hown hs hb
    have hal := alignL_len L
    have HSM := Lib.hid (equal_strs A1 A2 (alignL L).length (alignL L).length c1 c2 _ _ w2 HS1.out HS2.out (by rw [hal]; have := HN.out; omega) (by rw [hal]; have := HN.out; omega))
    rw [decide_eq_true rfl] at HSM
    clear hal
    go_wp2_with fail
    refine HSM.out.mono ?_
    rintro e w3 ⟨rfl, k, rfl⟩
    have HB3 : Hid (Below w.heap.size w (w2.drewN k)) := below_drewN HB2.out _
    go_wp2_with fail
    refine (awake_any _ (HT.out.on HB3.out)).mono ?_
    rintro e wz ⟨rfl, hbz⟩
    go_wp2
    go_ret
    exact ⟨rfl, HB3.out.trans (hbz.mono HB3.out.size)⟩
  · have HF := Lib.hid (few_no (c := c) HL.out hn hf)
    clear hf
    go_enter Tryd.func6, Tryd.ntmps6
    go_wp2_with fail
    refine HF.out.mono ?_
    rintro e w1 ⟨rfl, rfl⟩
    go_wp2_with fail
    refine (awake_any _ HT.out).mono ?_
    rintro e wz ⟨rfl, hbz⟩
    go_wp2
    go_ret
    exact ⟨rfl, hbz⟩
set_option maxHeartbeats 4000000 in
set_option maxRecDepth 100000 in
theorem groups_law (A : Option Addr) (n c : Nat) (l : List Int) (W : Int) (w : World) (hl : IR w w.heap.size A n l) (hn : n ≤ 9223372036854775807) (hr : ∀ x ∈ l, -9223372036854775808 ≤ x ∧ x ≤ 9223372036854775807) (hW : W ≤ 9223372036854775807) (hT : Tabs w) :
    Calls Tryd.prog 5 #[.slice A n c, .int .i64 W] w fun e w' => e = .returned (.bool true) ∧ Below w.heap.size w w' := by
  have HT := Lib.hid hT
  clear hT
  have HL := Lib.hid hl
  have HR : Hid (∀ x ∈ l, x ≤ 9223372036854775807) := fun x hx => (hr x hx).2
  clear hl hr
  by_cases hs : n ≤ 60
  · have hd : ¬ (60 : Int) < (n : Int) := by omega
    have HB0 : Hid (Below w.heap.size w w) := Below.refl _ _
    go_enter Tryd.func5, Tryd.ntmps5
    go_wp2_with fail
    refine (groups_any A n c l W w HL.out (by omega) HR.out hW).mono ?_
    rintro e w1 ⟨v, rfl, hown, hb⟩
    obtain ⟨A1, c1, rfl, hg⟩ := hown.form
    have HG1 := Lib.hid hg
    have HB1 : Hid (Below w.heap.size w w1) := hb
    clear hown hg hb
    go_wp2_with fail
    refine (refGroups_any A n c l W w1 (IR.on HL.out HB1.out) (by omega) HR.out hW).mono ?_
    rintro e w2 ⟨v, rfl, hown, hb⟩
    obtain ⟨A2, c2, rfl, hg⟩ := hown.form
    have HG2 := Lib.hid hg
    have HG3 := Lib.hid (HG1.out.on hb)
    have HB2 : Hid (Below w.heap.size w w2) := HB1.out.trans (hb.mono HB1.out.size)
    clear hown hg hb
    have hgl := groups_len l W
    have hln := HL.out.len
    have HSM := Lib.hid (samePairs_any A1 A2 (groups l W).length c1 c2 (groups l W) w2 HG3.out HG2.out (by omega))
    clear hgl hln
    go_wp2_with fail
    refine HSM.out.mono ?_
    rintro e w3 ⟨rfl, hb⟩
    have HB3 : Hid (Below w.heap.size w w3) := HB2.out.trans (hb.mono HB2.out.size)
    clear hb
    go_wp2_with fail
    refine (awake_any _ (HT.out.on HB3.out)).mono ?_
    rintro e wz ⟨rfl, hbz⟩
    go_wp2
    go_ret
    exact ⟨rfl, HB3.out.trans (hbz.mono HB3.out.size)⟩
  · have hd : (60 : Int) < (n : Int) := by omega
    go_enter Tryd.func5, Tryd.ntmps5
    go_wp2_with fail
    refine (awake_any _ HT.out).mono ?_
    rintro e wz ⟨rfl, hbz⟩
    go_wp2
    go_ret
    exact ⟨rfl, hbz⟩
theorem ex_self (s : ByteArray) : s.extract 0 s.size = s := ba_ext (by rw [Lib.extract_data]; simp; exact List.take_of_length_le (by rw [← Lib.size_eq]; exact Nat.le_refl _))
theorem ex_app (s t : ByteArray) : (s ++ t).extract 0 s.size = s := ba_ext (by rw [Lib.extract_data]; simp)
theorem app_at {s t : ByteArray} {i : Nat} {b : UInt8} (h : s.size ≤ i) (hi : i < (s ++ t).size) (ht : ∀ x ∈ t.data.toList, x = b) : (s ++ t)[i] = b := by
  have h1 : (s ++ t).data.toList[i]? = some (s ++ t)[i] := by
    rw [List.getElem?_eq_getElem (by rw [← Lib.size_eq]; exact hi)]
    rfl
  rw [app_data, List.getElem?_append_right (by rw [← Lib.size_eq]; exact h)] at h1
  exact ht _ (List.mem_of_getElem? h1)
set_option maxHeartbeats 4000000 in
set_option maxRecDepth 100000 in
theorem pads_law (s : ByteArray) (n : Int) (w : World)  (hT : Tabs w) :
    Calls Tryd.prog 8 #[.string s, .int .i64 n] w fun e w' => e = .returned (.bool true) ∧ Below w.heap.size w w' := by
  have HT := Lib.hid hT
  clear hT
  by_cases hs : s.size ≤ 2000
  · have hd : ¬ (2000 : Int) < (s.size : Int) := by omega
    have HB0 : Hid (Below w.heap.size w w) := Below.refl _ _
    have HP := Lib.hid (pad_any s n w (by omega) HT.out)
    have hps := padB_size s n
    have HW1 := Lib.hid fun W (hb : Below w.heap.size w W) => width_any s W (by omega) (HT.out.on hb)
    have HW2 := Lib.hid fun W (hb : Below w.heap.size w W) => width_any (padB s n) W (by omega) (HT.out.on hb)
    by_cases hn : 4000 < n ∨ n ≤ (widB s : Int)
    · have hpe := padB_id hn
      rw [hpe] at HP HW2 hps
      have hex := ex_self s
      have hle : s.size ≤ s.size := Nat.le_refl _
      obtain ⟨t, ht⟩ : ∃ t, t = s := ⟨_, rfl⟩
      rw [← ht] at hex hle
      have HE := Lib.hid hex
      obtain ⟨k, hk⟩ : ∃ k, widB s = k := ⟨_, rfl⟩
      rw [hk] at hn HW1
      subst ht
      clear hpe hk
      have hsz : ¬ (t.size : Int) < (t.size : Int) := by omega
      have hbeq : ((t.extract 0 t.size).toList == t.toList) = true := by rw [HE.out]; exact beq_self_eq_true _
      have hbne : ((t.extract 0 t.size).toList != t.toList) = false := by rw [HE.out]; exact bne_self_eq_false _
      have HBL : Hid (∀ (i : Nat) (h1 : t.size ≤ i) (h2 : i < t.size), t[i] = 32) := fun i h1 h2 => by omega
      by_cases h4 : 4000 < n
      all_goals
        go_enter Tryd.func8, Tryd.ntmps8
        go_wp2_with fail
        refine (HP.out).mono ?_
        rintro e w1 ⟨rfl, hb⟩
        have HB1 : Hid (Below w.heap.size w w1) := HB0.out.trans (hb.mono HB0.out.size)
        clear hb
        go_wp2_with fail
        go_loop [6] (fun v6 => ∃ i : Nat, t.size ≤ i ∧ i ≤ t.size ∧ v6 = .int .i64 i) (fun v6 => t.size - (intOf v6).toNat)
        case atStart => exact ⟨t.size, Nat.le_refl _, hle, rfl⟩
        case round =>
          obtain ⟨i, hi1, hi2, rfl⟩ := hrel
          by_cases hlt : i < t.size
          · have hiz : (i : Int) < (t.size : Int) := by omega
            have hiA : (0 : Int) ≤ (i : Int) := by omega
            have hb := HBL.out i hi1 hlt
            have hbb : ((t[i].toNat : Int) != 32) = false := by rw [hb]; rfl
            have hbc : ((t[i].toNat : Int) == 32) = true := by rw [hb]; rfl
            clear hb
            go_wp2
            go_round
            case rel => exact ⟨i + 1, by omega, by omega, by go_num⟩
            case measure => simp [intOf]; omega
          · obtain rfl : i = t.size := by omega
            have hiz : ¬ (t.size : Int) < (t.size : Int) := by omega
            go_wp2_with fail
            refine (HW1.out _ HB1.out).mono ?_
            rintro e w2 ⟨rfl, hb⟩
            have HB2 : Hid (Below w.heap.size w w2) := HB1.out.trans (hb.mono HB1.out.size)
            clear hb
            have hcz : n ≤ (k : Int) ∨ 4000 < n := by omega
            go_wp2_with fail
            refine (awake_any _ (HT.out.on HB2.out)).mono ?_
            rintro e wz ⟨rfl, hbz⟩
            go_wp2
            go_ret
            exact ⟨rfl, HB2.out.trans (hbz.mono HB2.out.size)⟩
    · obtain ⟨m, hm⟩ : ∃ m : Nat, n = (widB s : Int) + (m : Int) := ⟨(n - widB s).toNat, by omega⟩
      have hpe : s ++ strL (sp m) = padB s n := pad_go rfl hm.symm (by omega)
      have hww : (widB (padB s n) : Int) = n := pad_wid (s := s.data.toList) (by show (widB s : Int) ≤ n; omega) (by omega) |> fun h => by
        unfold padB widB
        rw [strL_data]
        exact h
      have hex := ex_app s (strL (sp m))
      have hle : s.size ≤ (s ++ strL (sp m)).size := by rw [Lib.size_eq, Lib.size_eq, app_data, List.length_append]; omega
      have hbl : ∀ (i : Nat) (h1 : s.size ≤ i) (h2 : i < (s ++ strL (sp m)).size), (s ++ strL (sp m))[i] = 32 := fun i h1 h2 => app_at h1 h2 (fun x hx => by
        rw [strL_data] at hx
        exact (List.mem_replicate.1 hx).2)
      rw [hpe] at hex hle hbl
      obtain ⟨t, ht⟩ : ∃ t, padB s n = t := ⟨_, rfl⟩
      rw [ht] at HP HW2 hww hex hle hbl hps
      have HBL : Hid (∀ (i : Nat) (h1 : s.size ≤ i) (h2 : i < t.size), t[i] = 32) := hbl
      have HE := Lib.hid hex
      have HWW := Lib.hid hww
      obtain ⟨k, hk⟩ : ∃ k, widB s = k := ⟨_, rfl⟩
      rw [hk] at hn HW1
      obtain ⟨k2, hk2⟩ : ∃ k2, widB t = k2 := ⟨_, rfl⟩
      rw [hk2] at HW2 HWW
      clear hpe hk hk2 ht hm hww hex hbl
      have hsz : ¬ (t.size : Int) < (s.size : Int) := by omega
      have hszz : (s.size : Int) ≤ (t.size : Int) := by omega
      have hbeq : ((t.extract 0 s.size).toList == s.toList) = true := by rw [HE.out]; exact beq_self_eq_true _
      have hbne : ((t.extract 0 s.size).toList != s.toList) = false := by rw [HE.out]; exact bne_self_eq_false _
      have h4 : ¬ 4000 < n := by omega
      have h5 : ¬ n ≤ (k : Int) := by omega
      go_enter Tryd.func8, Tryd.ntmps8
      go_wp2_with fail
      refine (HP.out).mono ?_
      rintro e w1 ⟨rfl, hb⟩
      have HB1 : Hid (Below w.heap.size w w1) := HB0.out.trans (hb.mono HB0.out.size)
      clear hb
      go_wp2_with fail
      go_loop [6] (fun v6 => ∃ i : Nat, s.size ≤ i ∧ i ≤ t.size ∧ v6 = .int .i64 i) (fun v6 => t.size - (intOf v6).toNat)
      case atStart => exact ⟨s.size, Nat.le_refl _, hle, rfl⟩
      case round =>
        obtain ⟨i, hi1, hi2, rfl⟩ := hrel
        by_cases hlt : i < t.size
        · have hiz : (i : Int) < (t.size : Int) := by omega
          have hiA : (0 : Int) ≤ (i : Int) := by omega
          have hb := HBL.out i hi1 hlt
          have hbb : ((t[i].toNat : Int) != 32) = false := by rw [hb]; rfl
          have hbc : ((t[i].toNat : Int) == 32) = true := by rw [hb]; rfl
          clear hb
          go_wp2
          go_round
          case rel => exact ⟨i + 1, by omega, by omega, by go_num⟩
          case measure => simp [intOf]; omega
        · obtain rfl : i = t.size := by omega
          have hiz : ¬ (t.size : Int) < (t.size : Int) := by omega
          go_wp2_with fail
          refine (HW1.out _ HB1.out).mono ?_
          rintro e w2 ⟨rfl, hb⟩
          have HB2 : Hid (Below w.heap.size w w2) := HB1.out.trans (hb.mono HB1.out.size)
          clear hb
          go_wp2_with fail
          refine (HW2.out _ HB2.out).mono ?_
          rintro e w3 ⟨rfl, hb⟩
          have HB3 : Hid (Below w.heap.size w w3) := HB2.out.trans (hb.mono HB2.out.size)
          clear hb
          have heq : ((k2 : Int) == n) = true := beq_iff_eq.2 HWW.out
          go_wp2_with fail
          refine (awake_any _ (HT.out.on HB3.out)).mono ?_
          rintro e wz ⟨rfl, hbz⟩
          go_wp2
          go_ret
          exact ⟨rfl, HB3.out.trans (hbz.mono HB3.out.size)⟩
  · have hd : (2000 : Int) < (s.size : Int) := by omega
    go_enter Tryd.func8, Tryd.ntmps8
    go_wp2_with fail
    refine (awake_any _ HT.out).mono ?_
    rintro e wz ⟨rfl, hbz⟩
    go_wp2
    go_ret
    exact ⟨rfl, hbz⟩
end Go.Proofs.YtacfeabdeaikhaaDoor
