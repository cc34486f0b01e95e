/-
  CollateOrdered, walked: it returns true, and nothing that was there has changed.
-/
import Derived.Test.YtgbhpmbkhhbifaaPlainOrdered
import Derived.Test.YtgbhpmbkhhbifaaShort
import Derived.Test.YtgbhpmbkhhbifaaCmpLaw
namespace Go.Proofs.Ytgbhpmbkhhbifaa
open Go.RowKit Col Srt
set_option linter.unusedVariables false
set_option linter.unusedSimpArgs false

set_option maxHeartbeats 4000000 in
set_option maxRecDepth 100000 in
theorem ordered_law (SA UA LA : Option Addr) (sn sc un uc ln lc : Nat) (nm : ByteArray) (S : List (ByteArray × Int)) (U : List (ByteArray × List Int)) (L : List (List ByteArray)) (w : World) (hS : SegsR w w.heap.size SA sn S) (hU : UnitsR w w.heap.size UA un U) (hL : RowsR w w.heap.size LA ln L)
    (hnm : nm.size ≤ 9223372036854775807) (A : Option Addr) (n c : Nat) (l : List ByteArray) (hl : SR w w.heap.size A n l) (hn : n ≤ 9223372036854775807) :
    Calls Try.prog 8 #[.agg #[.slice SA sn sc, .string nm, .slice UA un uc, .slice LA ln lc], .slice A n c] w fun e w' => e = .returned (.bool true) ∧ Below w.heap.size w w' := by
  have hbe := below_new w (.cells #[.slice SA sn sc, .string nm, .slice UA un uc, .slice LA ln lc] 30)
  have hr := right_any SA UA LA sn sc un uc ln lc nm S U L (w.alloc (.cells #[.slice SA sn sc, .string nm, .slice UA un uc, .slice LA ln lc] 30)) ((hS.below hbe).more hbe.size) ((hU.below hbe).more hbe.size) (hL.on hbe) hnm
  obtain ⟨rb, hrb⟩ : ∃ rb, Hid (rightB S nm U L = rb) := ⟨_, rfl⟩
  rw [hrb.out] at hr
  have HR := Lib.hid hr; clear hr
  have HSR := Lib.hid hl; clear hl
  have HBE := Lib.hid hbe; clear hbe
  have HL := Lib.hid hL; clear hL hS hU
  cases rb with
  | false =>
    go_enter Try.func8, Try.ntmps8
    go_wp2_with fail
    refine HR.out.mono ?_
    rintro e w1 ⟨rfl, hb1⟩
    have HB1 : Hid (Below w.heap.size w w1) := HBE.out.trans (hb1.mono HBE.out.size)
    clear hb1
    go_wp2_with fail
    refine (awake_any _).mono ?_
    rintro e w2 ⟨rfl, hb2⟩
    go_wp2
    go_ret
    exact ⟨rfl, HB1.out.trans (hb2.mono HB1.out.size)⟩
  | true =>
    have hshort := fun W (hb : Below w.heap.size w W) => short_any A n c l W (SR.on HSR.out hb) hn
    obtain ⟨sb, hsb⟩ : ∃ sb, Hid (shortB l = sb) := ⟨_, rfl⟩
    rw [hsb.out] at hshort
    have HSH := Lib.hid hshort; clear hshort
    cases sb with
    | false =>
      go_enter Try.func8, Try.ntmps8
      go_wp2_with fail
      refine HR.out.mono ?_
      rintro e w1 ⟨rfl, hb1⟩
      have HB1 : Hid (Below w.heap.size w w1) := HBE.out.trans (hb1.mono HBE.out.size)
      clear hb1
      go_wp2_with fail
      refine (HSH.out _ HB1.out).mono ?_
      rintro e w2 ⟨rfl, rfl⟩
      go_wp2_with fail
      refine (awake_any _).mono ?_
      rintro e w2 ⟨rfl, hb2⟩
      go_wp2
      go_ret
      exact ⟨rfl, HB1.out.trans (hb2.mono HB1.out.size)⟩
    | true =>
      have HSZ := Lib.hid (right_sized hrb.out)
      have hshz := shortB_size hsb.out
      have hn30 : n ≤ 30 := by rw [← HSR.out.len]; exact hshz.1
      have HSS := Lib.hid hshz.2
      clear hshz
      have hlnz : ln ≤ 140737488355328 := by
        have := HSZ.out.1
        rw [HL.out.len] at this
        omega
      go_enter Try.func8, Try.ntmps8
      go_wp2_with fail
      refine HR.out.mono ?_
      rintro e w1 ⟨rfl, hb1⟩
      have HB1 : Hid (Below w.heap.size w w1) := HBE.out.trans (hb1.mono HBE.out.size)
      have HX1 : Hid (BoxA w1 w.heap.size SA sn sc nm UA un uc LA ln lc) := (BoxA.new w SA sn sc nm UA un uc LA ln lc 30).on hb1 (by simp)
      have hsz1 : w.heap.size < w1.heap.size := by have := hb1.size; simp at this; omega
      clear hb1
      go_wp2_with fail
      refine (HSH.out _ HB1.out).mono ?_
      rintro e w2 ⟨rfl, rfl⟩
      obtain ⟨x0, x1, x2, x3⟩ := HX1.out
      have hsort := sort_any nm UA LA A un uc ln lc n c L l w1 w1.heap.size (HL.out.on HB1.out) (Nat.le_refl _) HSZ.out (SR.on HSR.out HB1.out) (by omega) (fun s hs => by have := HSS.out s hs; omega)
      have HSO := Lib.hid hsort; clear hsort
      go_wp2_with fail
      refine HSO.out.mono ?_
      rintro e w2 ⟨v, ys, rfl, hown, hst, hb2⟩
      obtain ⟨AO, co, rfl, _, _, ro⟩ := own_form hown
      have HST := Lib.hid hst
      have RO := Lib.hid ro
      have HB2 : Hid (Below w.heap.size w w2) := HB1.out.trans (hb2.mono HB1.out.size)
      have HX2 := Lib.hid (HX1.out.on hb2 hsz1)
      have hsz2 : w.heap.size < w2.heap.size := by have := hb2.size; omega
      clear hb2 hown ro hst HSO x0 x1 x2 x3 HX1
      have HL2 := Lib.hid (HL.out.on HB2.out)
      have HSR2 : Hid (SR w2 w2.heap.size A n l) := SR.on HSR.out HB2.out
      have hyl : Hid (ys.length = n) := by
        have h1 := HST.out.perm.length_eq
        have h2 := HSR.out.len
        show _ = _
        omega
      have HYS : Hid (∀ s, s ∈ ys → s.size ≤ 80) := fun s hs => HSS.out s (HST.out.perm.mem_iff.1 hs)
      obtain ⟨y0, y1, y2, y3⟩ := HX2.out
      clear y0
      go_wp2_with fail
      go_loopw [6, 7, 8, 9, 10, 11, 32, 37] (fun v6 _ _ _ _ _ v _ wr => ∃ (i : Nat) (last : Int), i ≤ n ∧ v = .int .i64 i ∧ v6 = .int .i64 last ∧ Hid (∀ j x, i ≤ j → ys[j]? = some x → last ≤ rankS L x.data.toList) ∧ Hid (Below w2.heap.size w2 wr)) (fun _ _ _ _ _ _ v _ _ => n - (intOf v).toNat)
      case atStart => exact ⟨0, -1, Nat.zero_le _, rfl, rfl, fun _ x _ _ => rank_low L _, Below.refl _ _⟩
      case round =>
        obtain ⟨i, last, hi, rfl, rfl, HLA, HBR⟩ := hrel
        by_cases hlt : i < n
        · have hiz : (i : Int) < (n : Int) := by omega
          obtain ⟨ado, ux, rfl, lx1', hux, hcx⟩ := RO.out.at_ hlt
          obtain ⟨x, hx⟩ : ∃ x, ys[i]? = some x := ⟨ys[i]'(by rw [hyl.out]; exact hlt), List.getElem?_eq_getElem _⟩
          have ex : ux = .string x := by simpa [hx] using hux.symm
          subst ex
          have cx2 : w2.cell? (ado.add i) = some (.string x) := hcx
          have lx1 : (ado.add i).block < w2.heap.size := by rw [block_of_add]; exact lx1'
          have HX := Lib.hid hx
          have hxs : x.size ≤ 80 := HYS.out x (List.mem_of_getElem? hx)
          clear hux hcx hx
          go_wp2_with fail
          go_loopw [8, 9, 10, 37] (fun v8 v9 _ v wq => ∃ k : Nat, k ≤ n ∧ v = .int .i64 k ∧ v8 = .int .i64 (cnt (l.take k) x : Nat) ∧ v9 = .int .i64 (cnt (ys.take k) x : Nat) ∧ Hid (Below w2.heap.size w2 wq)) (fun _ _ _ v _ => n - (intOf v).toNat)
          case atStart => exact ⟨0, Nat.zero_le _, rfl, rfl, rfl, HBR⟩
          case round =>
            obtain ⟨k, hk, rfl, rfl, rfl, HBQ⟩ := hrel
            by_cases hkt : k < n
            · have hkz : (k : Int) < (n : Int) := by omega
              obtain ⟨adl, y, rfl, ll1', hy, cl2⟩ := HSR2.out.at_ hkt
              have ll1 : (adl.add k).block < w2.heap.size := by rw [block_of_add]; exact ll1'
              obtain ⟨_, uz, e0, lz1', huz, hcz⟩ := RO.out.at_ hkt
              obtain rfl : ado = _ := Option.some.inj e0
              obtain ⟨z, hz⟩ : ∃ z, ys[k]? = some z := ⟨ys[k]'(by rw [hyl.out]; exact hkt), List.getElem?_eq_getElem _⟩
              have ez : uz = .string z := by simpa [hz] using huz.symm
              subst ez
              have cz2 : w2.cell? (ado.add k) = some (.string z) := hcz
              have lz1 : (ado.add k).block < w2.heap.size := by rw [block_of_add]; exact lz1'
              have HN := Lib.hid (cnt_take (x := x) hy)
              have HM := Lib.hid (cnt_take (x := x) hz)
              have hc1 : cnt (l.take k) x ≤ 30 := by have := cnt_le (l.take k) x; rw [List.length_take] at this; omega
              have hc2 : cnt (ys.take k) x ≤ 30 := by have := cnt_le (ys.take k) x; rw [List.length_take] at this; omega
              have HYX := Lib.hid (beq_bytes y x)
              have HZX := Lib.hid (beq_bytes z x)
              clear huz hcz hy hz e0 lz1' ll1'
              obtain ⟨nn, hnn⟩ : ∃ q, cnt (l.take k) x = q := ⟨_, rfl⟩
              obtain ⟨mm, hmm⟩ : ∃ q, cnt (ys.take k) x = q := ⟨_, rfl⟩
              rw [hnn] at hc1 ⊢
              rw [hmm] at hc2 ⊢
              have HNN := Lib.hid hnn; have HMM := Lib.hid hmm
              clear hnn hmm
              by_cases gy : y = x
              · by_cases gz : z = x
                · have hyx : (y.toList == x.toList) = true := by rw [HYX.out]; simp [gy]
                  have hzx : (z.toList == x.toList) = true := by rw [HZX.out]; simp [gz]
                  have HN' : Hid (cnt (l.take (k + 1)) x = nn + 1) := by show _ = _; rw [HN.out, HNN.out]; simp [gy]
                  have HM' : Hid (cnt (ys.take (k + 1)) x = mm + 1) := by show _ = _; rw [HM.out, HMM.out]; simp [gz]
                  clear gy gz HYX HZX HN HM
                  have cl : ∀ p : BW wr, p.at_.cell? (adl.add k) = some (.string y) := fun p => (((HBQ).out.trans (p.bel.mono (HBQ).out.size)).cell ll1).trans cl2
                  have cx : ∀ p : BW wr, p.at_.cell? (ado.add i) = some (.string x) := fun p => (((HBQ).out.trans (p.bel.mono (HBQ).out.size)).cell lx1).trans cx2
                  go_wp2_with fail
                  refine wp_region_quiet_below (by kernel_rfl) (by kernel_rfl) ?_
                  repeat (go_big_quiet_step (fail))
                  refine wpQuiet_nil ?_
                  intro w3 hw'
                  have hbw := bw_below hw'
                  clear hw'
                  have HB3 : Hid (Below w2.heap.size w2 w3) := HBQ.out.trans (hbw.mono HBQ.out.size)
                  clear hbw
                  clear cl cx
                  have cx : ∀ p : BW w3, p.at_.cell? (ado.add i) = some (.string x) := fun p => (((HB3).out.trans (p.bel.mono (HB3).out.size)).cell lx1).trans cx2
                  have cz : ∀ p : BW w3, p.at_.cell? (ado.add k) = some (.string z) := fun p => (((HB3).out.trans (p.bel.mono (HB3).out.size)).cell lz1).trans cz2
                  go_wp2_with fail
                  refine wp_region_quiet_below (by kernel_rfl) (by kernel_rfl) ?_
                  repeat (go_big_quiet_step (fail))
                  refine wpQuiet_nil ?_
                  intro w4 hw'
                  have hbw := bw_below hw'
                  clear hw'
                  have HB4 : Hid (Below w2.heap.size w2 w4) := HB3.out.trans (hbw.mono HB3.out.size)
                  clear hbw
                  clear cx cz cx2 cz2 cl2 y1 y2 y3
                  go_wp2
                  go_roundw
                  case rel => exact ⟨k + 1, by omega, by go_num, by rw [HN'.out]; go_num, by rw [HM'.out]; go_num, HB4⟩
                  case measure => simp [intOf]; omega
                · have hyx : (y.toList == x.toList) = true := by rw [HYX.out]; simp [gy]
                  have hzx : (z.toList == x.toList) = false := by rw [HZX.out]; simp [gz]
                  have HN' : Hid (cnt (l.take (k + 1)) x = nn + 1) := by show _ = _; rw [HN.out, HNN.out]; simp [gy]
                  have HM' : Hid (cnt (ys.take (k + 1)) x = mm + 0) := by show _ = _; rw [HM.out, HMM.out]; simp [gz]
                  clear gy gz HYX HZX HN HM
                  have cl : ∀ p : BW wr, p.at_.cell? (adl.add k) = some (.string y) := fun p => (((HBQ).out.trans (p.bel.mono (HBQ).out.size)).cell ll1).trans cl2
                  have cx : ∀ p : BW wr, p.at_.cell? (ado.add i) = some (.string x) := fun p => (((HBQ).out.trans (p.bel.mono (HBQ).out.size)).cell lx1).trans cx2
                  go_wp2_with fail
                  refine wp_region_quiet_below (by kernel_rfl) (by kernel_rfl) ?_
                  repeat (go_big_quiet_step (fail))
                  refine wpQuiet_nil ?_
                  intro w3 hw'
                  have hbw := bw_below hw'
                  clear hw'
                  have HB3 : Hid (Below w2.heap.size w2 w3) := HBQ.out.trans (hbw.mono HBQ.out.size)
                  clear hbw
                  clear cl cx
                  have cx : ∀ p : BW w3, p.at_.cell? (ado.add i) = some (.string x) := fun p => (((HB3).out.trans (p.bel.mono (HB3).out.size)).cell lx1).trans cx2
                  have cz : ∀ p : BW w3, p.at_.cell? (ado.add k) = some (.string z) := fun p => (((HB3).out.trans (p.bel.mono (HB3).out.size)).cell lz1).trans cz2
                  go_wp2_with fail
                  refine wp_region_quiet_below (by kernel_rfl) (by kernel_rfl) ?_
                  repeat (go_big_quiet_step (fail))
                  refine wpQuiet_nil ?_
                  intro w4 hw'
                  have hbw := bw_below hw'
                  clear hw'
                  have HB4 : Hid (Below w2.heap.size w2 w4) := HB3.out.trans (hbw.mono HB3.out.size)
                  clear hbw
                  clear cx cz cx2 cz2 cl2 y1 y2 y3
                  go_wp2
                  go_roundw
                  case rel => exact ⟨k + 1, by omega, by go_num, by rw [HN'.out]; go_num, by rw [HM'.out]; go_num, HB4⟩
                  case measure => simp [intOf]; omega
              · by_cases gz : z = x
                · have hyx : (y.toList == x.toList) = false := by rw [HYX.out]; simp [gy]
                  have hzx : (z.toList == x.toList) = true := by rw [HZX.out]; simp [gz]
                  have HN' : Hid (cnt (l.take (k + 1)) x = nn + 0) := by show _ = _; rw [HN.out, HNN.out]; simp [gy]
                  have HM' : Hid (cnt (ys.take (k + 1)) x = mm + 1) := by show _ = _; rw [HM.out, HMM.out]; simp [gz]
                  clear gy gz HYX HZX HN HM
                  have cl : ∀ p : BW wr, p.at_.cell? (adl.add k) = some (.string y) := fun p => (((HBQ).out.trans (p.bel.mono (HBQ).out.size)).cell ll1).trans cl2
                  have cx : ∀ p : BW wr, p.at_.cell? (ado.add i) = some (.string x) := fun p => (((HBQ).out.trans (p.bel.mono (HBQ).out.size)).cell lx1).trans cx2
                  go_wp2_with fail
                  refine wp_region_quiet_below (by kernel_rfl) (by kernel_rfl) ?_
                  repeat (go_big_quiet_step (fail))
                  refine wpQuiet_nil ?_
                  intro w3 hw'
                  have hbw := bw_below hw'
                  clear hw'
                  have HB3 : Hid (Below w2.heap.size w2 w3) := HBQ.out.trans (hbw.mono HBQ.out.size)
                  clear hbw
                  clear cl cx
                  have cx : ∀ p : BW w3, p.at_.cell? (ado.add i) = some (.string x) := fun p => (((HB3).out.trans (p.bel.mono (HB3).out.size)).cell lx1).trans cx2
                  have cz : ∀ p : BW w3, p.at_.cell? (ado.add k) = some (.string z) := fun p => (((HB3).out.trans (p.bel.mono (HB3).out.size)).cell lz1).trans cz2
                  go_wp2_with fail
                  refine wp_region_quiet_below (by kernel_rfl) (by kernel_rfl) ?_
                  repeat (go_big_quiet_step (fail))
                  refine wpQuiet_nil ?_
                  intro w4 hw'
                  have hbw := bw_below hw'
                  clear hw'
                  have HB4 : Hid (Below w2.heap.size w2 w4) := HB3.out.trans (hbw.mono HB3.out.size)
                  clear hbw
                  clear cx cz cx2 cz2 cl2 y1 y2 y3
                  go_wp2
                  go_roundw
                  case rel => exact ⟨k + 1, by omega, by go_num, by rw [HN'.out]; go_num, by rw [HM'.out]; go_num, HB4⟩
                  case measure => simp [intOf]; omega
                · have hyx : (y.toList == x.toList) = false := by rw [HYX.out]; simp [gy]
                  have hzx : (z.toList == x.toList) = false := by rw [HZX.out]; simp [gz]
                  have HN' : Hid (cnt (l.take (k + 1)) x = nn + 0) := by show _ = _; rw [HN.out, HNN.out]; simp [gy]
                  have HM' : Hid (cnt (ys.take (k + 1)) x = mm + 0) := by show _ = _; rw [HM.out, HMM.out]; simp [gz]
                  clear gy gz HYX HZX HN HM
                  have cl : ∀ p : BW wr, p.at_.cell? (adl.add k) = some (.string y) := fun p => (((HBQ).out.trans (p.bel.mono (HBQ).out.size)).cell ll1).trans cl2
                  have cx : ∀ p : BW wr, p.at_.cell? (ado.add i) = some (.string x) := fun p => (((HBQ).out.trans (p.bel.mono (HBQ).out.size)).cell lx1).trans cx2
                  go_wp2_with fail
                  refine wp_region_quiet_below (by kernel_rfl) (by kernel_rfl) ?_
                  repeat (go_big_quiet_step (fail))
                  refine wpQuiet_nil ?_
                  intro w3 hw'
                  have hbw := bw_below hw'
                  clear hw'
                  have HB3 : Hid (Below w2.heap.size w2 w3) := HBQ.out.trans (hbw.mono HBQ.out.size)
                  clear hbw
                  clear cl cx
                  have cx : ∀ p : BW w3, p.at_.cell? (ado.add i) = some (.string x) := fun p => (((HB3).out.trans (p.bel.mono (HB3).out.size)).cell lx1).trans cx2
                  have cz : ∀ p : BW w3, p.at_.cell? (ado.add k) = some (.string z) := fun p => (((HB3).out.trans (p.bel.mono (HB3).out.size)).cell lz1).trans cz2
                  go_wp2_with fail
                  refine wp_region_quiet_below (by kernel_rfl) (by kernel_rfl) ?_
                  repeat (go_big_quiet_step (fail))
                  refine wpQuiet_nil ?_
                  intro w4 hw'
                  have hbw := bw_below hw'
                  clear hw'
                  have HB4 : Hid (Below w2.heap.size w2 w4) := HB3.out.trans (hbw.mono HB3.out.size)
                  clear hbw
                  clear cx cz cx2 cz2 cl2 y1 y2 y3
                  go_wp2
                  go_roundw
                  case rel => exact ⟨k + 1, by omega, by go_num, by rw [HN'.out]; go_num, by rw [HM'.out]; go_num, HB4⟩
                  case measure => simp [intOf]; omega
            · obtain rfl : n = k := by omega
              have hkz : ¬ (n : Int) < (n : Int) := by omega
              have HC : Hid (cnt (ys.take n) x = cnt (l.take n) x) := by
                have h1 := HSR.out.len
                have h2 := hyl.out
                show _ = _
                rw [List.take_of_length_le (by omega), List.take_of_length_le (by omega)]
                exact cnt_stable HST.out x
              rw [HC.out]
              obtain ⟨nn, hnn⟩ : ∃ q, cnt (l.take n) x = q := ⟨_, rfl⟩
              rw [hnn]
              clear hnn HC
              obtain ⟨sec, hsec⟩ : ∃ r, Hid (section_ L x.data.toList = r) := ⟨_, rfl⟩
              obtain ⟨rk, hrk⟩ : ∃ r, Hid (rankS L x.data.toList = r) := ⟨_, rfl⟩
              have hlast : last ≤ rk := by rw [← hrk.out]; exact HLA.out i x (Nat.le_refl _) HX.out
              have hld : decide (rk < last) = false := decide_eq_false (by omega)
              have HNX : Hid (∀ j z, i + 1 ≤ j → ys[j]? = some z → rk ≤ rankS L z.data.toList) := fun j z hj hz => by
                rw [← hrk.out]
                exact rank_le (pair_at HST.out (by omega) HX.out hz)
              have KS : Hid (∀ p : BW wr, Calls Try.prog 16 #[.agg #[.string nm, .slice UA un uc, .slice LA ln lc], .string x] p.at_ fun e w' => e = .returned (.int .i64 sec) ∧ ∃ q : BW wr, w' = q.at_) := fun p =>
                below_quiet (mono_eq (section_any nm UA LA un uc ln lc L x p.at_ p.at_.heap.size (HL.out.on (HB2.out.trans ((HBQ.out.trans (p.bel.mono HBQ.out.size)).mono HB2.out.size))) (Nat.le_refl _) HSZ.out (by omega)) (by rw [hsec.out]))
              have cx : ∀ p : BW wr, p.at_.cell? (ado.add i) = some (.string x) := fun p => (((HBQ).out.trans (p.bel.mono (HBQ).out.size)).cell lx1).trans cx2
              have q1 : ∀ p : BW wr, p.at_.cell? ⟨w.heap.size, 1, none⟩ = some (.string nm) := fun p => (((HBQ).out.trans (p.bel.mono (HBQ).out.size)).cell hsz2).trans y1
              have q2 : ∀ p : BW wr, p.at_.cell? ⟨w.heap.size, 2, none⟩ = some (.slice UA un uc) := fun p => (((HBQ).out.trans (p.bel.mono (HBQ).out.size)).cell hsz2).trans y2
              have q3 : ∀ p : BW wr, p.at_.cell? ⟨w.heap.size, 3, none⟩ = some (.slice LA ln lc) := fun p => (((HBQ).out.trans (p.bel.mono (HBQ).out.size)).cell hsz2).trans y3
              go_wp2_with fail
              refine wp_region_quiet_below (by kernel_rfl) (by kernel_rfl) ?_
              repeat (go_big_quiet_step ((go_at_call 16; (with_reducible exact KS.out _))))
              refine wpQuiet_nil ?_
              intro w3 hw'
              have hbw := bw_below hw'
              clear hw'
              have HB3 : Hid (Below w2.heap.size w2 w3) := HBQ.out.trans (hbw.mono HBQ.out.size)
              clear hbw
              clear cx q1 q2 q3 KS
              by_cases hs0 : sec < 0
              · have hs0d : decide (sec < 0) = true := decide_eq_true hs0
                by_cases he : x.toList.isEmpty = true
                · have hrs : rk = sec := by
                    rw [← hrk.out, ← hsec.out]
                    unfold rankS
                    rw [if_neg (fun h => h.2 (empty_nil.1 he))]
                  subst hrs
                  by_cases hi0 : i = 0
                  · have hj0 : decide ((0 : Int) < (i : Int)) = false := decide_eq_false (by omega)
                    have hj0n : decide (0 < i) = false := decide_eq_false (by omega)
                    clear hi0
                    have cx : ∀ p : BW w3, p.at_.cell? (ado.add i) = some (.string x) := fun p => (((HB3).out.trans (p.bel.mono (HB3).out.size)).cell lx1).trans cx2
                    have cx3 : w3.cell? (ado.add i) = some (.string x) := (HB3.out.cell lx1).trans cx2
                    have q33 : w3.cell? ⟨w.heap.size, 3, none⟩ = some (.slice LA ln lc) := (HB3.out.cell hsz2).trans y3
                    clear y1 y2 y3 cx2
                    go_wp2_with fail
                    refine wp_region_quiet_below (by kernel_rfl) (by kernel_rfl) ?_
                    repeat (go_big_quiet_step (fail))
                    refine wpQuiet_nil ?_
                    intro w4 hw'
                    have hbw := bw_below hw'
                    clear hw'
                    have HB4 : Hid (Below w2.heap.size w2 w4) := HB3.out.trans (hbw.mono HB3.out.size)
                    clear hbw
                    clear cx cx3 q33
                    go_wp2
                    go_roundw
                    case rel => exact ⟨i + 1, _, by omega, by go_num, rfl, HNX, HB4⟩
                    case measure => simp [intOf]; omega
                  · obtain ⟨j, hij⟩ : ∃ j, i = j + 1 := ⟨i - 1, by omega⟩
                    obtain ⟨_, up, e0, lp1', hup, hcp⟩ := RO.out.at_ (k := j) (by omega)
                    obtain rfl : ado = _ := Option.some.inj e0
                    obtain ⟨x', hx'⟩ : ∃ z, ys[j]? = some z := ⟨ys[j]'(by rw [hyl.out]; omega), List.getElem?_eq_getElem _⟩
                    have ez : up = .string x' := by simpa [hx'] using hup.symm
                    subst ez
                    have cp2 : w2.cell? (ado.add j) = some (.string x') := hcp
                    have lp1 : (ado.add j).block < w2.heap.size := by rw [block_of_add]; exact lp1'
                    have hxs' : x'.size ≤ 80 := HYS.out x' (List.mem_of_getElem? hx')
                    have hcm : cmpS L x'.data.toList x.data.toList ≤ 0 := pair_at HST.out (by omega : j < i) hx' HX.out
                    obtain ⟨cr, hcr⟩ : ∃ r, Hid (cmpS L x'.data.toList x.data.toList = r) := ⟨_, rfl⟩
                    rw [hcr.out] at hcm
                    have hcd : decide ((0 : Int) < cr) = false := decide_eq_false (by omega)
                    have hj1 : wrap64 ((i : Int) - 1) = (j : Int) := by unfold wrap64; omega
                    have hj0 : decide ((0 : Int) < (i : Int)) = true := decide_eq_true (by omega)
                    have hj0n : decide (0 < i) = true := decide_eq_true (by omega)
                    have hj2 : (i : Int) - 1 = (j : Int) := by omega
                    have hj3 : i - 1 = j := by omega
                    have hj4 : ((i : Int) - 1).toNat = j := by omega
                    have hjn : (j : Int) < (n : Int) := by omega
                    have hjn' : j < n := by omega
                    clear hup hcp hx' e0 hcm hij
                    have KC : Hid (∀ p : BW w3, Calls Try.prog 18 #[.agg #[.string nm, .slice UA un uc, .slice LA ln lc], .string x', .string x] p.at_ fun e w' => e = .returned (.int .i64 cr) ∧ ∃ q : BW w3, w' = q.at_) := fun p =>
                      below_quiet (mono_eq (compare_any nm UA LA un uc ln lc L x' x p.at_ p.at_.heap.size (HL.out.on (HB2.out.trans ((HB3.out.trans (p.bel.mono HB3.out.size)).mono HB2.out.size))) (Nat.le_refl _) HSZ.out (by omega) (by omega)) (by rw [hcr.out]))
                    have cx : ∀ p : BW w3, p.at_.cell? (ado.add i) = some (.string x) := fun p => (((HB3).out.trans (p.bel.mono (HB3).out.size)).cell lx1).trans cx2
                    have cp : ∀ p : BW w3, p.at_.cell? (ado.add j) = some (.string x') := fun p => (((HB3).out.trans (p.bel.mono (HB3).out.size)).cell lp1).trans cp2
                    have q1 : ∀ p : BW w3, p.at_.cell? ⟨w.heap.size, 1, none⟩ = some (.string nm) := fun p => (((HB3).out.trans (p.bel.mono (HB3).out.size)).cell hsz2).trans y1
                    have q2 : ∀ p : BW w3, p.at_.cell? ⟨w.heap.size, 2, none⟩ = some (.slice UA un uc) := fun p => (((HB3).out.trans (p.bel.mono (HB3).out.size)).cell hsz2).trans y2
                    have q3 : ∀ p : BW w3, p.at_.cell? ⟨w.heap.size, 3, none⟩ = some (.slice LA ln lc) := fun p => (((HB3).out.trans (p.bel.mono (HB3).out.size)).cell hsz2).trans y3
                    have cx3 : w3.cell? (ado.add i) = some (.string x) := (HB3.out.cell lx1).trans cx2
                    have q33 : w3.cell? ⟨w.heap.size, 3, none⟩ = some (.slice LA ln lc) := (HB3.out.cell hsz2).trans y3
                    clear y1 y2 y3 cx2 cp2
                    go_wp2_with fail
                    refine wp_region_quiet_below (by kernel_rfl) (by kernel_rfl) ?_
                    repeat (go_big_quiet_step ((go_at_call 18; (with_reducible exact KC.out _))))
                    refine wpQuiet_nil ?_
                    intro w4 hw'
                    have hbw := bw_below hw'
                    clear hw'
                    have HB4 : Hid (Below w2.heap.size w2 w4) := HB3.out.trans (hbw.mono HB3.out.size)
                    clear hbw
                    clear cx cx3 cp q1 q2 q3 q33 KC
                    go_wp2
                    go_roundw
                    case rel => exact ⟨i + 1, _, by omega, by go_num, rfl, HNX, HB4⟩
                    case measure => simp [intOf]; omega
                · have he' : x.toList.isEmpty = false := by simpa using he
                  have hrs : rk = (ln : Int) := by
                    rw [← hrk.out]
                    unfold rankS
                    rw [if_pos ⟨by rw [hsec.out]; exact hs0, fun h => he (empty_nil.2 h)⟩, HL2.out.len]
                  subst hrs
                  by_cases hi0 : i = 0
                  · have hj0 : decide ((0 : Int) < (i : Int)) = false := decide_eq_false (by omega)
                    have hj0n : decide (0 < i) = false := decide_eq_false (by omega)
                    clear hi0
                    have cx : ∀ p : BW w3, p.at_.cell? (ado.add i) = some (.string x) := fun p => (((HB3).out.trans (p.bel.mono (HB3).out.size)).cell lx1).trans cx2
                    have cx3 : w3.cell? (ado.add i) = some (.string x) := (HB3.out.cell lx1).trans cx2
                    have q33 : w3.cell? ⟨w.heap.size, 3, none⟩ = some (.slice LA ln lc) := (HB3.out.cell hsz2).trans y3
                    clear y1 y2 y3 cx2
                    go_wp2_with fail
                    refine wp_region_quiet_below (by kernel_rfl) (by kernel_rfl) ?_
                    repeat (go_big_quiet_step (fail))
                    refine wpQuiet_nil ?_
                    intro w4 hw'
                    have hbw := bw_below hw'
                    clear hw'
                    have HB4 : Hid (Below w2.heap.size w2 w4) := HB3.out.trans (hbw.mono HB3.out.size)
                    clear hbw
                    clear cx cx3 q33
                    go_wp2
                    go_roundw
                    case rel => exact ⟨i + 1, _, by omega, by go_num, rfl, HNX, HB4⟩
                    case measure => simp [intOf]; omega
                  · obtain ⟨j, hij⟩ : ∃ j, i = j + 1 := ⟨i - 1, by omega⟩
                    obtain ⟨_, up, e0, lp1', hup, hcp⟩ := RO.out.at_ (k := j) (by omega)
                    obtain rfl : ado = _ := Option.some.inj e0
                    obtain ⟨x', hx'⟩ : ∃ z, ys[j]? = some z := ⟨ys[j]'(by rw [hyl.out]; omega), List.getElem?_eq_getElem _⟩
                    have ez : up = .string x' := by simpa [hx'] using hup.symm
                    subst ez
                    have cp2 : w2.cell? (ado.add j) = some (.string x') := hcp
                    have lp1 : (ado.add j).block < w2.heap.size := by rw [block_of_add]; exact lp1'
                    have hxs' : x'.size ≤ 80 := HYS.out x' (List.mem_of_getElem? hx')
                    have hcm : cmpS L x'.data.toList x.data.toList ≤ 0 := pair_at HST.out (by omega : j < i) hx' HX.out
                    obtain ⟨cr, hcr⟩ : ∃ r, Hid (cmpS L x'.data.toList x.data.toList = r) := ⟨_, rfl⟩
                    rw [hcr.out] at hcm
                    have hcd : decide ((0 : Int) < cr) = false := decide_eq_false (by omega)
                    have hj1 : wrap64 ((i : Int) - 1) = (j : Int) := by unfold wrap64; omega
                    have hj0 : decide ((0 : Int) < (i : Int)) = true := decide_eq_true (by omega)
                    have hj0n : decide (0 < i) = true := decide_eq_true (by omega)
                    have hj2 : (i : Int) - 1 = (j : Int) := by omega
                    have hj3 : i - 1 = j := by omega
                    have hj4 : ((i : Int) - 1).toNat = j := by omega
                    have hjn : (j : Int) < (n : Int) := by omega
                    have hjn' : j < n := by omega
                    clear hup hcp hx' e0 hcm hij
                    have KC : Hid (∀ p : BW w3, Calls Try.prog 18 #[.agg #[.string nm, .slice UA un uc, .slice LA ln lc], .string x', .string x] p.at_ fun e w' => e = .returned (.int .i64 cr) ∧ ∃ q : BW w3, w' = q.at_) := fun p =>
                      below_quiet (mono_eq (compare_any nm UA LA un uc ln lc L x' x p.at_ p.at_.heap.size (HL.out.on (HB2.out.trans ((HB3.out.trans (p.bel.mono HB3.out.size)).mono HB2.out.size))) (Nat.le_refl _) HSZ.out (by omega) (by omega)) (by rw [hcr.out]))
                    have cx : ∀ p : BW w3, p.at_.cell? (ado.add i) = some (.string x) := fun p => (((HB3).out.trans (p.bel.mono (HB3).out.size)).cell lx1).trans cx2
                    have cp : ∀ p : BW w3, p.at_.cell? (ado.add j) = some (.string x') := fun p => (((HB3).out.trans (p.bel.mono (HB3).out.size)).cell lp1).trans cp2
                    have q1 : ∀ p : BW w3, p.at_.cell? ⟨w.heap.size, 1, none⟩ = some (.string nm) := fun p => (((HB3).out.trans (p.bel.mono (HB3).out.size)).cell hsz2).trans y1
                    have q2 : ∀ p : BW w3, p.at_.cell? ⟨w.heap.size, 2, none⟩ = some (.slice UA un uc) := fun p => (((HB3).out.trans (p.bel.mono (HB3).out.size)).cell hsz2).trans y2
                    have q3 : ∀ p : BW w3, p.at_.cell? ⟨w.heap.size, 3, none⟩ = some (.slice LA ln lc) := fun p => (((HB3).out.trans (p.bel.mono (HB3).out.size)).cell hsz2).trans y3
                    have cx3 : w3.cell? (ado.add i) = some (.string x) := (HB3.out.cell lx1).trans cx2
                    have q33 : w3.cell? ⟨w.heap.size, 3, none⟩ = some (.slice LA ln lc) := (HB3.out.cell hsz2).trans y3
                    clear y1 y2 y3 cx2 cp2
                    go_wp2_with fail
                    refine wp_region_quiet_below (by kernel_rfl) (by kernel_rfl) ?_
                    repeat (go_big_quiet_step ((go_at_call 18; (with_reducible exact KC.out _))))
                    refine wpQuiet_nil ?_
                    intro w4 hw'
                    have hbw := bw_below hw'
                    clear hw'
                    have HB4 : Hid (Below w2.heap.size w2 w4) := HB3.out.trans (hbw.mono HB3.out.size)
                    clear hbw
                    clear cx cx3 cp q1 q2 q3 q33 KC
                    go_wp2
                    go_roundw
                    case rel => exact ⟨i + 1, _, by omega, by go_num, rfl, HNX, HB4⟩
                    case measure => simp [intOf]; omega
              · have hs0d : decide (sec < 0) = false := decide_eq_false hs0
                have hrs : rk = sec := by
                  rw [← hrk.out, ← hsec.out]
                  unfold rankS
                  rw [if_neg (fun h => hs0 (by rw [← hsec.out]; exact h.1))]
                subst hrs
                by_cases hi0 : i = 0
                · have hj0 : decide ((0 : Int) < (i : Int)) = false := decide_eq_false (by omega)
                  have hj0n : decide (0 < i) = false := decide_eq_false (by omega)
                  clear hi0
                  have cx : ∀ p : BW w3, p.at_.cell? (ado.add i) = some (.string x) := fun p => (((HB3).out.trans (p.bel.mono (HB3).out.size)).cell lx1).trans cx2
                  have cx3 : w3.cell? (ado.add i) = some (.string x) := (HB3.out.cell lx1).trans cx2
                  have q33 : w3.cell? ⟨w.heap.size, 3, none⟩ = some (.slice LA ln lc) := (HB3.out.cell hsz2).trans y3
                  clear y1 y2 y3 cx2
                  go_wp2_with fail
                  refine wp_region_quiet_below (by kernel_rfl) (by kernel_rfl) ?_
                  repeat (go_big_quiet_step (fail))
                  refine wpQuiet_nil ?_
                  intro w4 hw'
                  have hbw := bw_below hw'
                  clear hw'
                  have HB4 : Hid (Below w2.heap.size w2 w4) := HB3.out.trans (hbw.mono HB3.out.size)
                  clear hbw
                  clear cx cx3 q33
                  go_wp2
                  go_roundw
                  case rel => exact ⟨i + 1, _, by omega, by go_num, rfl, HNX, HB4⟩
                  case measure => simp [intOf]; omega
                · obtain ⟨j, hij⟩ : ∃ j, i = j + 1 := ⟨i - 1, by omega⟩
                  obtain ⟨_, up, e0, lp1', hup, hcp⟩ := RO.out.at_ (k := j) (by omega)
                  obtain rfl : ado = _ := Option.some.inj e0
                  obtain ⟨x', hx'⟩ : ∃ z, ys[j]? = some z := ⟨ys[j]'(by rw [hyl.out]; omega), List.getElem?_eq_getElem _⟩
                  have ez : up = .string x' := by simpa [hx'] using hup.symm
                  subst ez
                  have cp2 : w2.cell? (ado.add j) = some (.string x') := hcp
                  have lp1 : (ado.add j).block < w2.heap.size := by rw [block_of_add]; exact lp1'
                  have hxs' : x'.size ≤ 80 := HYS.out x' (List.mem_of_getElem? hx')
                  have hcm : cmpS L x'.data.toList x.data.toList ≤ 0 := pair_at HST.out (by omega : j < i) hx' HX.out
                  obtain ⟨cr, hcr⟩ : ∃ r, Hid (cmpS L x'.data.toList x.data.toList = r) := ⟨_, rfl⟩
                  rw [hcr.out] at hcm
                  have hcd : decide ((0 : Int) < cr) = false := decide_eq_false (by omega)
                  have hj1 : wrap64 ((i : Int) - 1) = (j : Int) := by unfold wrap64; omega
                  have hj0 : decide ((0 : Int) < (i : Int)) = true := decide_eq_true (by omega)
                  have hj0n : decide (0 < i) = true := decide_eq_true (by omega)
                  have hj2 : (i : Int) - 1 = (j : Int) := by omega
                  have hj3 : i - 1 = j := by omega
                  have hj4 : ((i : Int) - 1).toNat = j := by omega
                  have hjn : (j : Int) < (n : Int) := by omega
                  have hjn' : j < n := by omega
                  clear hup hcp hx' e0 hcm hij
                  have KC : Hid (∀ p : BW w3, Calls Try.prog 18 #[.agg #[.string nm, .slice UA un uc, .slice LA ln lc], .string x', .string x] p.at_ fun e w' => e = .returned (.int .i64 cr) ∧ ∃ q : BW w3, w' = q.at_) := fun p =>
                    below_quiet (mono_eq (compare_any nm UA LA un uc ln lc L x' x p.at_ p.at_.heap.size (HL.out.on (HB2.out.trans ((HB3.out.trans (p.bel.mono HB3.out.size)).mono HB2.out.size))) (Nat.le_refl _) HSZ.out (by omega) (by omega)) (by rw [hcr.out]))
                  have cx : ∀ p : BW w3, p.at_.cell? (ado.add i) = some (.string x) := fun p => (((HB3).out.trans (p.bel.mono (HB3).out.size)).cell lx1).trans cx2
                  have cp : ∀ p : BW w3, p.at_.cell? (ado.add j) = some (.string x') := fun p => (((HB3).out.trans (p.bel.mono (HB3).out.size)).cell lp1).trans cp2
                  have q1 : ∀ p : BW w3, p.at_.cell? ⟨w.heap.size, 1, none⟩ = some (.string nm) := fun p => (((HB3).out.trans (p.bel.mono (HB3).out.size)).cell hsz2).trans y1
                  have q2 : ∀ p : BW w3, p.at_.cell? ⟨w.heap.size, 2, none⟩ = some (.slice UA un uc) := fun p => (((HB3).out.trans (p.bel.mono (HB3).out.size)).cell hsz2).trans y2
                  have q3 : ∀ p : BW w3, p.at_.cell? ⟨w.heap.size, 3, none⟩ = some (.slice LA ln lc) := fun p => (((HB3).out.trans (p.bel.mono (HB3).out.size)).cell hsz2).trans y3
                  have cx3 : w3.cell? (ado.add i) = some (.string x) := (HB3.out.cell lx1).trans cx2
                  have q33 : w3.cell? ⟨w.heap.size, 3, none⟩ = some (.slice LA ln lc) := (HB3.out.cell hsz2).trans y3
                  clear y1 y2 y3 cx2 cp2
                  go_wp2_with fail
                  refine wp_region_quiet_below (by kernel_rfl) (by kernel_rfl) ?_
                  repeat (go_big_quiet_step ((go_at_call 18; (with_reducible exact KC.out _))))
                  refine wpQuiet_nil ?_
                  intro w4 hw'
                  have hbw := bw_below hw'
                  clear hw'
                  have HB4 : Hid (Below w2.heap.size w2 w4) := HB3.out.trans (hbw.mono HB3.out.size)
                  clear hbw
                  clear cx cx3 cp q1 q2 q3 q33 KC
                  go_wp2
                  go_roundw
                  case rel => exact ⟨i + 1, _, by omega, by go_num, rfl, HNX, HB4⟩
                  case measure => simp [intOf]; omega
        · obtain rfl : n = i := by omega
          have hiz : ¬ (n : Int) < (n : Int) := by omega
          have HBF : Hid (Below w.heap.size w wr) := HB2.out.trans (HBR.out.mono HB2.out.size)
          go_wp2_with fail
          refine (awake_any _).mono ?_
          rintro e w3 ⟨rfl, hb3⟩
          go_wp2
          go_ret
          exact ⟨rfl, HBF.out.trans (hb3.mono HBF.out.size)⟩
end Go.Proofs.Ytgbhpmbkhhbifaa
