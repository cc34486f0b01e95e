/-
  CollateParts, walked: it returns true, and nothing that was there has changed.
-/
import Derived.Test.YtgbhpmbkhhbifaaPlainParts
import Derived.Test.YtgbhpmbkhhbifaaCmpLaw
import Derived.Test.YtgbhpmbkhhbifaaRunes
namespace Go.Proofs.Ytgbhpmbkhhbifaa
open Go.RowKit Col Srt
set_option linter.unusedVariables false
set_option linter.unusedSimpArgs false

set_option maxHeartbeats 4000000 in
set_option maxRecDepth 100000 in
theorem parts_law (SA UA LA : Option Addr) (sn sc un uc ln lc : Nat) (nm : ByteArray) (S : List (ByteArray × Int)) (U : List (ByteArray × List Int)) (L : List (List ByteArray)) (w : World) (hS : SegsR w w.heap.size SA sn S) (hU : UnitsR w w.heap.size UA un U) (hL : RowsR w w.heap.size LA ln L)
    (hnm : nm.size ≤ 9223372036854775807) (s : ByteArray) :
    Calls Try.prog 9 #[.agg #[.slice SA sn sc, .string nm, .slice UA un uc, .slice LA ln lc], .string s] w fun e w' => e = .returned (.bool true) ∧ Below w.heap.size w w' := by
  have hbe := below_new w (.cells #[.slice SA sn sc, .string nm, .slice UA un uc, .slice LA ln lc] 30)
  have hr := right_any SA UA LA sn sc un uc ln lc nm S U L (w.alloc (.cells #[.slice SA sn sc, .string nm, .slice UA un uc, .slice LA ln lc] 30)) ((hS.below hbe).more hbe.size) ((hU.below hbe).more hbe.size) (hL.on hbe) hnm
  obtain ⟨rb, hrb⟩ : ∃ rb, Hid (rightB S nm U L = rb) := ⟨_, rfl⟩
  rw [hrb.out] at hr
  have HR := Lib.hid hr; clear hr
  have HBE := Lib.hid hbe; clear hbe
  have HL := Lib.hid hL; clear hL hS hU
  cases rb with
  | false =>
    go_enter Try.func9, Try.ntmps9
    go_wp2_with fail
    refine HR.out.mono ?_
    rintro e w1 ⟨rfl, hb1⟩
    have HB1 : Hid (Below w.heap.size w w1) := HBE.out.trans (hb1.mono HBE.out.size)
    clear hb1
    go_wp2_with fail
    refine (awake_any _).mono ?_
    rintro e w2 ⟨rfl, hb2⟩
    go_wp2
    go_ret
    exact ⟨rfl, HB1.out.trans (hb2.mono HB1.out.size)⟩
  | true =>
    by_cases hs : s.size ≤ 80
    · have hsz : decide ((80 : Int) < (s.size : Int)) = false := decide_eq_false (by omega)
      have HSZ := Lib.hid (right_sized hrb.out)
      obtain ⟨d, hd⟩ : ∃ d, Hid (letters L s.data.toList = d) := ⟨_, rfl⟩
      have hdl : d.length ≤ 80 := by
        have := letters_length L _ s.data.toList (Nat.le_refl _)
        rw [hd.out, ← Lib.size_eq] at this
        omega
      have hpa := parts_all L _ s.data.toList (Nat.le_refl _)
      rw [hd.out] at hpa
      have HPA := Lib.hid hpa.1
      have HPO := Lib.hid hpa.2
      clear hpa
      have hlnz : ln ≤ 140737488355328 := by
        have := HSZ.out.1
        rw [HL.out.len] at this
        omega
      go_enter Try.func9, Try.ntmps9
      go_wp2_with fail
      refine HR.out.mono ?_
      rintro e w1 ⟨rfl, hb1⟩
      have HB1 : Hid (Below w.heap.size w w1) := HBE.out.trans (hb1.mono HBE.out.size)
      have HX1 : Hid (BoxA w1 w.heap.size SA sn sc nm UA un uc LA ln lc) := (BoxA.new w SA sn sc nm UA un uc LA ln lc 30).on hb1 (by simp)
      have hsz1 : w.heap.size < w1.heap.size := by have := hb1.size; simp at this; omega
      obtain ⟨x0, x1, x2, x3⟩ := HX1.out
      have hlt := letters_any nm UA LA un uc ln lc L s w1 w1.heap.size (HL.out.on HB1.out) (Nat.le_refl _) HSZ.out (by omega)
      rw [hd.out] at hlt
      have HLT := Lib.hid hlt
      clear hb1 hlt
      go_wp2_with fail
      refine HLT.out.mono ?_
      rintro e w2 ⟨va, vb, rfl, hva, hvb, hb2⟩
      obtain ⟨A1, c1, rfl, _, _, ra⟩ := own_form hva
      obtain ⟨A2, c2, rfl, _, _, rb⟩ := own_form hvb
      have RA := Lib.hid ra; have RB := Lib.hid rb
      have HB2 : Hid (Below w.heap.size w w2) := HB1.out.trans (hb2.mono HB1.out.size)
      have HX2 := Lib.hid (HX1.out.on hb2 hsz1)
      have hsz2 : w.heap.size < w2.heap.size := by have := hb2.size; omega
      clear hb2 HLT hva hvb ra rb x0 x1 x2 x3 HX1
      have HL2 := Lib.hid (HL.out.on HB2.out)
      obtain ⟨al, hal⟩ : ∃ al, Hid (allL d = al) := ⟨_, rfl⟩
      rw [hal.out]
      go_wp2_with fail
      go_loopw [8, 9, 10, 11, 36] (fun v8 v9 _ _ v wr => ∃ (k : Nat) (tb : ByteArray) (ab : Bool), k ≤ d.length ∧ v = .int .i64 k ∧ v8 = .string tb ∧ v9 = .bool ab ∧ Hid (tb.data.toList = (d.take k).flatMap (piece L)) ∧ Hid (ab = allL (d.take k)) ∧ Hid (Below w2.heap.size w2 wr)) (fun _ _ _ _ v _ => d.length - (intOf v).toNat)
      case atStart => exact ⟨0, ⟨#[]⟩, true, Nat.zero_le _, rfl, rfl, rfl, rfl, rfl, Below.refl _ _⟩
      case round =>
        obtain ⟨k, tb, ab, hk, rfl, rfl, rfl, HTB, HAB, HBR⟩ := hrel
        have htb : tb.size ≤ 80 := by
          have h1 := flat_le (L := L) (d := d) k
          rw [HPA.out, ← HTB.out, ← Lib.size_eq, ← Lib.size_eq] at h1
          omega
        by_cases hlt : k < d.length
        · have hkz : (k : Int) < (d.length : Int) := by omega
          obtain ⟨⟨a, b, o⟩, hx⟩ : ∃ x, d[k]? = some x := ⟨d[k], List.getElem?_eq_getElem hlt⟩
          obtain ⟨ad1, u1, rfl, lb1', hu1, hc1⟩ := RA.out.at_ hlt
          obtain ⟨ad2, u2, rfl, lb2', hu2, hc2⟩ := RB.out.at_ hlt
          have e1 : u1 = .int .i64 (a : Int) := by simpa [prim, hx] using hu1.symm
          have e2 : u2 = .int .i64 (b : Int) := by simpa [secd, hx] using hu2.symm
          subst e1 e2
          have ca2 : w2.cell? (ad1.add k) = some (.int .i64 (a : Int)) := hc1
          have la1 : (ad1.add k).block < w2.heap.size := by rw [block_of_add]; exact lb1'
          have lb1 : (ad2.add k).block < w2.heap.size := by rw [block_of_add]; exact lb2'
          have hpo := HPO.out _ (List.mem_of_getElem? hx)
          have HFT := Lib.hid (flat_take (L := L) hx)
          have HAT := Lib.hid (all_take hx)
          have y3 := HX2.out.letters
          clear hu1 hu2 hc1
          cases o with
          | false =>
            obtain ⟨g1, g2, rfl⟩ := hpo.2 rfl
            have cb2 : w2.cell? (ad2.add k) = some (.int .i64 0) := hc2
            clear hc2 hpo hx
            try simp only at g1 g2
            obtain ⟨q, hq⟩ : ∃ q, q = a - L.length := ⟨_, rfl⟩
            have haq : a = ln + q := by rw [HL2.out.len] at *; omega
            have hwr : wrap64 ((a : Int) - (ln : Int)) = (q : Int) := by
              rw [haq]
              have : ((ln + q : Nat) : Int) - (ln : Int) = (q : Int) := by omega
              rw [this]
              unfold wrap64; omega
            have hq2 : q ≤ 255 := by omega
            have HPI : Hid (piece L (a, 0, false) = [UInt8.ofNat q]) := by show _ = _; unfold piece; simp [hq]
            clear g1 g2 hq haq
            have hq255 : decide ((255 : Int) < (q : Int)) = false := decide_eq_false (by omega)
            have hq256 : (q : Int) % 256 = (q : Int) := by omega
            have hcat : tb.size + 1 ≤ 9223372036854775807 := by omega
            have q3 : ∀ p : BW wr, p.at_.cell? ⟨w.heap.size, 3, none⟩ = some (.slice LA ln lc) := fun p => (((HBR).out.trans (p.bel.mono (HBR).out.size)).cell hsz2).trans y3
            have ca : ∀ p : BW wr, p.at_.cell? (ad1.add k) = some (.int .i64 (a : Int)) := fun p => (((HBR).out.trans (p.bel.mono (HBR).out.size)).cell la1).trans ca2
            go_wp2_with fail
            refine wp_region_quiet_below (by kernel_rfl) (by kernel_rfl) ?_
            repeat (go_big_quiet_step (fail))
            refine wpQuiet_nil ?_
            intro w3 hw'
            have hbw := bw_below hw'
            clear hw'
            have HB3 : Hid (Below w2.heap.size w2 w3) := HBR.out.trans (hbw.mono HBR.out.size)
            clear hbw
            clear q3 ca
            have cb : w3.cell? (ad2.add k) = some (.int .i64 0) := ((HB3).out.cell lb1).trans cb2
            have hcv := conv_bytes w3 [(q : Int)] (by intro v hv; rw [List.mem_singleton] at hv; subst hv; omega)
            simp only [List.map_cons, List.map_nil, List.length_cons, List.length_nil, Nat.zero_add] at hcv
            clear y3 ca2 cb2
            go_wp2
            go_roundw
            case rel =>
              refine ⟨k + 1, tb ++ ⟨#[UInt8.ofNat q]⟩, false, by omega, by go_num, by simp, rfl, ?_, ?_, HB3.out.trans (below_new _ _ |>.mono HB3.out.size)⟩
              · show _ = _
                rw [HFT.out, HPI.out, ← HTB.out]
                simp
              · show _ = _
                rw [HAT.out]
                simp
            case measure => simp [intOf]; omega
          | true =>
            obtain ⟨g1, g2⟩ := hpo.1 rfl
            have cb2 : w2.cell? (ad2.add k) = some (.int .i64 (b : Int)) := hc2
            clear hc2 hpo hx
            try simp only at g1 g2
            have galn : a < ln := by rw [HL2.out.len] at g1; exact g1
            obtain ⟨adL, A', c', rfl, ll1', cl2', hSR⟩ := rows_at' HL2.out galn
            obtain ⟨m, hm⟩ : ∃ m, Hid ((L.getD a []).length = m) := ⟨_, rfl⟩
            rw [hm.out] at cl2' hSR g2
            obtain ⟨adV, v, rfl, lv1', hv, cv2⟩ := hSR.at_ g2
            have cl2 : w2.cell? (adL.add a) = some (.slice (some adV) m c') := cl2'
            have ll1 : (adL.add a).block < w2.heap.size := by rw [block_of_add]; exact ll1'
            have lv1 : (adV.add b).block < w2.heap.size := by rw [block_of_add]; exact lv1'
            have hvv : vari L a b = v := by unfold vari; rw [List.getD, hv]; rfl
            have hvs : v.size ≤ 140737488355328 := by
              rw [← hvv]
              have hl : L[a]? = some L[a] := List.getElem?_eq_getElem g1
              have e0 : L.getD a [] = L[a] := by rw [List.getD, hl]; rfl
              have h2 := (HSZ.out.2 L[a] (List.getElem_mem g1)).2 v (by rw [← e0]; exact List.mem_of_getElem? hv)
              rw [hvv]
              omega
            have HPI : Hid (piece L (a, b, true) = v.data.toList) := by show _ = _; unfold piece; simp [hvv]
            obtain ⟨z, hz⟩ : ∃ z : Int, z = (a : Int) - (ln : Int) := ⟨_, rfl⟩
            have hwr : wrap64 ((a : Int) - (ln : Int)) = z := by rw [← hz]; unfold wrap64; omega
            have hz0 : z < 0 := by omega
            have hzd : decide ((0 : Int) ≤ z) = false := decide_eq_false (by omega)
            have hgai : (a : Int) < (ln : Int) := by omega
            have hgbi : (b : Int) < (m : Int) := by omega
            have had : decide ((a : Int) < 0) = false := decide_eq_false (by omega)
            have hbd : decide ((b : Int) < 0) = false := decide_eq_false (by omega)
            have hmd : decide ((m : Int) ≤ (b : Int)) = false := decide_eq_false (by omega)
            have hcat : tb.size + v.size ≤ 9223372036854775807 := by omega
            clear hz hvv hv cl2' hSR g1
            have q3 : ∀ p : BW wr, p.at_.cell? ⟨w.heap.size, 3, none⟩ = some (.slice (some adL) ln lc) := fun p => (((HBR).out.trans (p.bel.mono (HBR).out.size)).cell hsz2).trans y3
            have ca : ∀ p : BW wr, p.at_.cell? (ad1.add k) = some (.int .i64 (a : Int)) := fun p => (((HBR).out.trans (p.bel.mono (HBR).out.size)).cell la1).trans ca2
            go_wp2_with fail
            refine wp_region_quiet_below (by kernel_rfl) (by kernel_rfl) ?_
            repeat (go_big_quiet_step (fail))
            refine wpQuiet_nil ?_
            intro w3 hw'
            have hbw := bw_below hw'
            clear hw'
            have HB3 : Hid (Below w2.heap.size w2 w3) := HBR.out.trans (hbw.mono HBR.out.size)
            clear hbw
            clear q3 ca
            have q3 : ∀ p : BW w3, p.at_.cell? ⟨w.heap.size, 3, none⟩ = some (.slice (some adL) ln lc) := fun p => (((HB3).out.trans (p.bel.mono (HB3).out.size)).cell hsz2).trans y3
            have ca : ∀ p : BW w3, p.at_.cell? (ad1.add k) = some (.int .i64 (a : Int)) := fun p => (((HB3).out.trans (p.bel.mono (HB3).out.size)).cell la1).trans ca2
            have cb : ∀ p : BW w3, p.at_.cell? (ad2.add k) = some (.int .i64 (b : Int)) := fun p => (((HB3).out.trans (p.bel.mono (HB3).out.size)).cell lb1).trans cb2
            have cl : ∀ p : BW w3, p.at_.cell? (adL.add a) = some (.slice (some adV) m c') := fun p => (((HB3).out.trans (p.bel.mono (HB3).out.size)).cell ll1).trans cl2
            go_wp2_with fail
            refine wp_region_quiet_below (by kernel_rfl) (by kernel_rfl) ?_
            repeat (go_big_quiet_step (fail))
            refine wpQuiet_nil ?_
            intro w4 hw'
            have hbw := bw_below hw'
            clear hw'
            have HB4 : Hid (Below w2.heap.size w2 w4) := HB3.out.trans (hbw.mono HB3.out.size)
            clear hbw
            clear q3 ca cb cl
            have q3 : ∀ p : BW w4, p.at_.cell? ⟨w.heap.size, 3, none⟩ = some (.slice (some adL) ln lc) := fun p => (((HB4).out.trans (p.bel.mono (HB4).out.size)).cell hsz2).trans y3
            have ca : ∀ p : BW w4, p.at_.cell? (ad1.add k) = some (.int .i64 (a : Int)) := fun p => (((HB4).out.trans (p.bel.mono (HB4).out.size)).cell la1).trans ca2
            have cb : ∀ p : BW w4, p.at_.cell? (ad2.add k) = some (.int .i64 (b : Int)) := fun p => (((HB4).out.trans (p.bel.mono (HB4).out.size)).cell lb1).trans cb2
            have cl : ∀ p : BW w4, p.at_.cell? (adL.add a) = some (.slice (some adV) m c') := fun p => (((HB4).out.trans (p.bel.mono (HB4).out.size)).cell ll1).trans cl2
            have cv : ∀ p : BW w4, p.at_.cell? (adV.add b) = some (.string v) := fun p => (((HB4).out.trans (p.bel.mono (HB4).out.size)).cell lv1).trans cv2
            go_wp2_with fail
            refine wp_region_quiet_below (by kernel_rfl) (by kernel_rfl) ?_
            repeat (go_big_quiet_step (fail))
            refine wpQuiet_nil ?_
            intro w5 hw'
            have hbw := bw_below hw'
            clear hw'
            have HB5 : Hid (Below w2.heap.size w2 w5) := HB4.out.trans (hbw.mono HB4.out.size)
            clear hbw
            clear q3 ca cb cl cv y3 ca2 cb2 cl2 cv2
            go_wp2
            go_roundw
            case rel =>
              refine ⟨k + 1, tb ++ v, ab, by omega, by go_num, by simp, rfl, ?_, ?_, HB5⟩
              · show _ = _
                rw [HFT.out, HPI.out, ← HTB.out]
                simp
              · show _ = _
                rw [HAT.out, HAB.out]
                simp
            case measure => simp [intOf]; omega
        · have hkk : d.length = k := by omega
          have hkz : ¬ (k : Int) < (d.length : Int) := by omega
          have e1 : tb = s := by
            have h1 := HTB.out
            rw [← hkk, List.take_length, HPA.out] at h1
            exact ba_ext h1
          have e2 : ab = al := by
            have h1 := HAB.out
            rw [← hkk, List.take_length, hal.out] at h1
            exact h1
          subst e1 e2
          have HBF : Hid (Below w.heap.size w wr) := HB2.out.trans (HBR.out.mono HB2.out.size)
          go_wp2_with fail
          refine (awake_any _).mono ?_
          rintro e w3 ⟨rfl, hb3⟩
          go_wp2
          go_ret
          exact ⟨rfl, HBF.out.trans (hb3.mono HBF.out.size)⟩
    · have hsz : decide ((80 : Int) < (s.size : Int)) = true := decide_eq_true (by omega)
      go_enter Try.func9, Try.ntmps9
      go_wp2_with fail
      refine HR.out.mono ?_
      rintro e w1 ⟨rfl, hb1⟩
      have HB1 : Hid (Below w.heap.size w w1) := HBE.out.trans (hb1.mono HBE.out.size)
      clear hb1
      go_wp2_with fail
      refine (awake_any _).mono ?_
      rintro e w2 ⟨rfl, hb2⟩
      go_wp2
      go_ret
      exact ⟨rfl, HB1.out.trans (hb2.mono HB1.out.size)⟩
end Go.Proofs.Ytgbhpmbkhhbifaa
