/-
  CollateTotal, walked: it returns true, and nothing that was there has changed.
-/
import Derived.Test.YtgbhpmbkhhbifaaShort
import Derived.Test.YtgbhpmbkhhbifaaCmpLaw
namespace Go.Proofs.Ytgbhpmbkhhbifaa
open Go.RowKit Col Srt
set_option linter.unusedVariables false
set_option linter.unusedSimpArgs false

theorem SR.take {w : World} {B : Nat} {A : Option Addr} {n : Nat} {l : List ByteArray} (h : SR w B A n l) (k : Nat) (hk : k ≤ n) : SR w B A k (l.take k) := by
  refine ⟨by simp [h.len]; omega, fun h0 => ?_⟩
  obtain ⟨ad, e, hb, hc⟩ := h.2 (by omega)
  refine ⟨ad, e, hb, fun j u hu => hc j u ?_⟩
  rw [List.getElem?_map] at hu ⊢
  rw [List.getElem?_take] at hu
  split at hu
  · exact hu
  · cases hu

set_option maxHeartbeats 4000000 in
set_option maxRecDepth 100000 in
theorem total_law (SA UA LA : Option Addr) (sn sc un uc ln lc : Nat) (nm : ByteArray) (S : List (ByteArray × Int)) (U : List (ByteArray × List Int)) (L : List (List ByteArray)) (w : World) (hS : SegsR w w.heap.size SA sn S) (hU : UnitsR w w.heap.size UA un U) (hL : RowsR w w.heap.size LA ln L)
    (hnm : nm.size ≤ 9223372036854775807) (A : Option Addr) (n c : Nat) (l : List ByteArray) (hl : SR w w.heap.size A n l) (hn : n ≤ 9223372036854775807) (hnc : n ≤ c) :
    Calls Try.prog 7 #[.agg #[.slice SA sn sc, .string nm, .slice UA un uc, .slice LA ln lc], .slice A n c] w fun e w' => e = .returned (.bool true) ∧ Below w.heap.size w w' := by
  have hbe := below_new w (.cells #[.slice SA sn sc, .string nm, .slice UA un uc, .slice LA ln lc] 30)
  have hr := right_any SA UA LA sn sc un uc ln lc nm S U L (w.alloc (.cells #[.slice SA sn sc, .string nm, .slice UA un uc, .slice LA ln lc] 30)) ((hS.below hbe).more hbe.size) ((hU.below hbe).more hbe.size) (hL.on hbe) hnm
  obtain ⟨rb, hrb⟩ : ∃ rb, Hid (rightB S nm U L = rb) := ⟨_, rfl⟩
  rw [hrb.out] at hr
  have HR := Lib.hid hr; clear hr
  have HSR := Lib.hid hl; clear hl
  have HBE := Lib.hid hbe; clear hbe
  have HL := Lib.hid hL; clear hL hS hU
  cases rb with
  | false =>
    go_enter Try.func7, Try.ntmps7
    go_wp2_with fail
    refine HR.out.mono ?_
    rintro e w1 ⟨rfl, hb1⟩
    have HB1 : Hid (Below w.heap.size w w1) := HBE.out.trans (hb1.mono HBE.out.size)
    clear hb1
    go_wp2_with fail
    refine (awake_any _).mono ?_
    rintro e w2 ⟨rfl, hb2⟩
    go_wp2
    go_ret
    exact ⟨rfl, HB1.out.trans (hb2.mono HB1.out.size)⟩
  | true =>
    by_cases h3 : n < 3
    · have h3z : decide ((n : Int) < 3) = true := decide_eq_true (by omega)
      go_enter Try.func7, Try.ntmps7
      go_wp2_with fail
      refine HR.out.mono ?_
      rintro e w1 ⟨rfl, hb1⟩
      have HB1 : Hid (Below w.heap.size w w1) := HBE.out.trans (hb1.mono HBE.out.size)
      clear hb1
      go_wp2_with fail
      refine (awake_any _).mono ?_
      rintro e w2 ⟨rfl, hb2⟩
      go_wp2
      go_ret
      exact ⟨rfl, HB1.out.trans (hb2.mono HB1.out.size)⟩
    · have h3z : decide ((n : Int) < 3) = false := decide_eq_false (by omega)
      obtain ⟨ad, hA⟩ : ∃ ad, A = some ad := by
        obtain ⟨ad, e, _⟩ := HSR.out.2 (by omega)
        exact ⟨ad, e⟩
      subst hA
      have hz3 : (3 : Int) ≤ (n : Int) := by omega
      have hzc : (3 : Int) ≤ (c : Int) := by omega
      have hzd : 3 ≤ c := by omega
      have hshort := fun W (hb : Below w.heap.size w W) => short_any (some ad) 3 c (l.take 3) W ((HSR.out.on hb).take 3 (by omega)) (by omega)
      obtain ⟨sb, hsb⟩ : ∃ sb, Hid (shortB (l.take 3) = sb) := ⟨_, rfl⟩
      rw [hsb.out] at hshort
      have HSH := Lib.hid hshort; clear hshort
      cases sb with
      | false =>
        go_enter Try.func7, Try.ntmps7
        go_wp2_with fail
        refine HR.out.mono ?_
        rintro e w1 ⟨rfl, hb1⟩
        have HB1 : Hid (Below w.heap.size w w1) := HBE.out.trans (hb1.mono HBE.out.size)
        clear hb1
        go_wp2_with fail
        refine (HSH.out _ HB1.out).mono ?_
        rintro e w2 ⟨rfl, rfl⟩
        go_wp2_with fail
        refine (awake_any _).mono ?_
        rintro e w2 ⟨rfl, hb2⟩
        go_wp2
        go_ret
        exact ⟨rfl, HB1.out.trans (hb2.mono HB1.out.size)⟩
      | true =>
        obtain ⟨s, hs⟩ : ∃ s, Hid (l[0]? = some s) := by
          have hlt : 0 < l.length := by rw [HSR.out.len]; omega
          exact ⟨l[0], show l[0]? = _ from List.getElem?_eq_getElem hlt⟩
        obtain ⟨t, ht⟩ : ∃ t, Hid (l[1]? = some t) := by
          have hlt : 1 < l.length := by rw [HSR.out.len]; omega
          exact ⟨l[1], show l[1]? = _ from List.getElem?_eq_getElem hlt⟩
        obtain ⟨u, hu⟩ : ∃ u, Hid (l[2]? = some u) := by
          have hlt : 2 < l.length := by rw [HSR.out.len]; omega
          exact ⟨l[2], show l[2]? = _ from List.getElem?_eq_getElem hlt⟩
        have hss : s.size ≤ 80 := (shortB_size hsb.out).2 s (List.mem_of_getElem? (i := 0) (by rw [List.getElem?_take, if_pos (by omega)]; exact hs.out))
        have hts : t.size ≤ 80 := (shortB_size hsb.out).2 t (List.mem_of_getElem? (i := 1) (by rw [List.getElem?_take, if_pos (by omega)]; exact ht.out))
        have hus : u.size ≤ 80 := (shortB_size hsb.out).2 u (List.mem_of_getElem? (i := 2) (by rw [List.getElem?_take, if_pos (by omega)]; exact hu.out))
        obtain ⟨n1, hn1⟩ : ∃ r, Hid (cmpS L s.data.toList t.data.toList = r) := ⟨_, rfl⟩
        obtain ⟨m1, hm1⟩ : ∃ r, Hid (cmpS L t.data.toList u.data.toList = r) := ⟨_, rfl⟩
        obtain ⟨q1, hq1⟩ : ∃ r, Hid (cmpS L s.data.toList u.data.toList = r) := ⟨_, rfl⟩
        have hanti : Hid (cmpS L t.data.toList s.data.toList = -n1) := by show _ = _; rw [← hn1.out]; exact (cmpS_is L).anti _ _
        have hself : Hid (cmpS L s.data.toList s.data.toList = 0) := (cmpS_is L).self _
        have hrn : n1 = -1 ∨ n1 = 0 ∨ n1 = 1 := by rw [← hn1.out]; exact (cmpS_is L).range _ _
        have hrm : m1 = -1 ∨ m1 = 0 ∨ m1 = 1 := by rw [← hm1.out]; exact (cmpS_is L).range _ _
        have htr : Hid (n1 ≤ 0 → m1 ≤ 0 → q1 = min n1 m1) := fun a b => by
          rw [← hn1.out] at a ⊢
          rw [← hm1.out] at b ⊢
          rw [← hq1.out]
          exact (cmpS_is L).trans _ _ _ a b
        have heq : Hid ((s.toList == t.toList) = decide (n1 = 0)) := by
          show _ = _
          by_cases h0 : n1 = 0
          · have := cmpS_zero (hn1.out.trans h0)
            rw [Lib.toList_data, Lib.toList_data, this, decide_eq_true h0]
            exact beq_self_eq_true _
          · rw [Lib.toList_data, Lib.toList_data, decide_eq_false h0]
            refine beq_eq_false_iff_ne.2 fun e => h0 ?_
            rw [← hn1.out, e]
            exact (cmpS_is L).self _
        have HSZ := Lib.hid (right_sized hrb.out)
        go_enter Try.func7, Try.ntmps7
        go_wp2_with fail
        refine HR.out.mono ?_
        rintro e w1 ⟨rfl, hb1⟩
        have HB1 : Hid (Below w.heap.size w w1) := HBE.out.trans (hb1.mono HBE.out.size)
        have HX1 : Hid (BoxA w1 w.heap.size SA sn sc nm UA un uc LA ln lc) := (BoxA.new w SA sn sc nm UA un uc LA ln lc 30).on hb1 (by simp)
        have hsz1 : w.heap.size < w1.heap.size := by have := hb1.size; simp at this; omega
        clear hb1
        go_wp2_with fail
        refine (HSH.out _ HB1.out).mono ?_
        rintro e w2 ⟨rfl, rfl⟩
        have g0 : ∀ p : BW w1, True := fun _ => trivial
        obtain ⟨ad0, s', hA0, _, hx0, hc0⟩ := (HSR.out.on HB1.out).at_ (k := 0) (by omega)
        obtain ⟨ad1, t', hA1, _, hx1, hc1⟩ := (HSR.out.on HB1.out).at_ (k := 1) (by omega)
        obtain ⟨ad2, u', hA2, _, hx2, hc2⟩ := (HSR.out.on HB1.out).at_ (k := 2) (by omega)
        obtain rfl : ad = ad0 := by injection hA0
        obtain rfl : ad = ad1 := by injection hA1
        obtain rfl : ad = ad2 := by injection hA2
        rw [hs.out] at hx0
        rw [ht.out] at hx1
        rw [hu.out] at hx2
        injection hx0 with hx0
        injection hx1 with hx1
        injection hx2 with hx2
        subst hx0 hx1 hx2
        have hc0' : w1.cell? ad = some (.string s) := by simpa [Addr.add] using hc0
        have hc1' := field_at (by omega) hc1
        have hc2' := field_at (by omega) hc2
        clear hA0 hA1 hA2 hc0 g0
        have hz0 : (0 : Int) < (n : Int) := by omega
        have hy0 : 0 < n := by omega
        have hy1 : 1 < n := by omega
        have hy2 : 2 < n := by omega
        have hz1 : (1 : Int) < (n : Int) := by omega
        have hz2 : (2 : Int) < (n : Int) := by omega
        go_wp2_with fail
        go_quiet (fail)
        have HB2 : Hid (Below w.heap.size w (w1.drewN nq)) := below_drewN HB1.out _
        have HX2 : Hid (BoxA (w1.drewN nq) w.heap.size SA sn sc nm UA un uc LA ln lc) := ⟨HX1.out.inv, HX1.out.name, HX1.out.units, HX1.out.letters⟩
        have hsz2 : w.heap.size < (w1.drewN nq).heap.size := hsz1
        clear hc0' hc1 hc2 hc1' hc2' HX1
        generalize w1.drewN nq = w2 at HB2 HX2 hsz2 ⊢
        have x1 : ∀ p : BW w2, p.at_.cell? ⟨w.heap.size, 1, none⟩ = some (.string nm) := fun p => (HX2.out.on p.bel hsz2).name
        have x2 : ∀ p : BW w2, p.at_.cell? ⟨w.heap.size, 2, none⟩ = some (.slice UA un uc) := fun p => (HX2.out.on p.bel hsz2).units
        have x3 : ∀ p : BW w2, p.at_.cell? ⟨w.heap.size, 3, none⟩ = some (.slice LA ln lc) := fun p => (HX2.out.on p.bel hsz2).letters
        have K1 : Hid (∀ p : BW w2, Calls Try.prog 18 #[.agg #[.string nm, .slice UA un uc, .slice LA ln lc], .string s, .string t] p.at_ fun e w'' => e = .returned (.int .i64 n1) ∧ ∃ q : BW w2, w'' = q.at_) := fun p =>
          below_quiet (mono_eq (compare_any nm UA LA un uc ln lc L s t p.at_ p.at_.heap.size (HL.out.on (HB2.out.trans (p.bel.mono HB2.out.size))) (Nat.le_refl _) HSZ.out (by omega) (by omega)) (by rw [hn1.out]))
        have K2 : Hid (∀ p : BW w2, Calls Try.prog 18 #[.agg #[.string nm, .slice UA un uc, .slice LA ln lc], .string t, .string u] p.at_ fun e w'' => e = .returned (.int .i64 m1) ∧ ∃ q : BW w2, w'' = q.at_) := fun p =>
          below_quiet (mono_eq (compare_any nm UA LA un uc ln lc L t u p.at_ p.at_.heap.size (HL.out.on (HB2.out.trans (p.bel.mono HB2.out.size))) (Nat.le_refl _) HSZ.out (by omega) (by omega)) (by rw [hm1.out]))
        go_wp2_with fail
        refine wp_region_quiet_below (by kernel_rfl) (by kernel_rfl) ?_
        repeat (go_big_quiet_step ((first
          | (go_at_call 18; first | (with_reducible exact K1.out _) | (with_reducible exact K2.out _)))))
        refine wpQuiet_nil ?_
        intro w3 hw'
        have hb3 := bw_below hw'
        clear hw'
        have HB3 : Hid (Below w.heap.size w w3) := HB2.out.trans (hb3.mono HB2.out.size)
        have HX3 := Lib.hid (HX2.out.on hb3 hsz2)
        have hsz3 : w.heap.size < w3.heap.size := by have := hb3.size; omega
        clear hb3 x1 x2 x3 K1 K2 HX2
        obtain ⟨y0, y1, y2, y3⟩ := HX3.out
        rcases hrn with rfl | rfl | rfl
        · have hbeq : (s.toList == t.toList) = false := by rw [heq.out]; rfl
          go_wp2_with fail
          refine (mono_eq (compare_any nm UA LA un uc ln lc L t s w3 w3.heap.size (HL.out.on HB3.out) (Nat.le_refl _) HSZ.out (by omega) (by omega)) (v' := .int .i64 1) (by rw [hanti.out]; try rfl)).mono ?_
          rintro e w4 ⟨rfl, hb4⟩
          have HB4 : Hid (Below w.heap.size w w4) := HB3.out.trans (hb4.mono HB3.out.size)
          have HX4 := Lib.hid (HX3.out.on hb4 hsz3)
          have hsz4 : w.heap.size < w4.heap.size := by have := hb4.size; omega
          clear hb4 y0 y1 y2 y3
          obtain ⟨y0, y1, y2, y3⟩ := HX4.out
          go_wp2_with fail
          refine (mono_eq (compare_any nm UA LA un uc ln lc L s s w4 w4.heap.size (HL.out.on HB4.out) (Nat.le_refl _) HSZ.out (by omega) (by omega)) (v' := .int .i64 0) (by rw [hself.out])).mono ?_
          rintro e w5 ⟨rfl, hb5⟩
          have HB5 : Hid (Below w.heap.size w w5) := HB4.out.trans (hb5.mono HB4.out.size)
          have HX5 := Lib.hid (HX4.out.on hb5 hsz4)
          have hsz5 : w.heap.size < w5.heap.size := by have := hb5.size; omega
          clear hb5 y0 y1 y2 y3
          obtain ⟨y0, y1, y2, y3⟩ := HX5.out
          rcases hrm with rfl | rfl | rfl
          · go_wp2_with fail
            refine (mono_eq (compare_any nm UA LA un uc ln lc L s u w5 w5.heap.size (HL.out.on HB5.out) (Nat.le_refl _) HSZ.out (by omega) (by omega)) (v' := .int .i64 (-1)) (by rw [hq1.out, htr.out (by omega) (by omega)]; try rfl)).mono ?_
            rintro e w6 ⟨rfl, hb6⟩
            have HB6 : Hid (Below w.heap.size w w6) := HB5.out.trans (hb6.mono HB5.out.size)
            clear hb6
            go_wp2_with fail
            refine (awake_any _).mono ?_
            rintro e w7 ⟨rfl, hb⟩
            go_wp2
            go_ret
            exact ⟨rfl, HB6.out.trans (hb.mono HB6.out.size)⟩
          · go_wp2_with fail
            refine (mono_eq (compare_any nm UA LA un uc ln lc L s u w5 w5.heap.size (HL.out.on HB5.out) (Nat.le_refl _) HSZ.out (by omega) (by omega)) (v' := .int .i64 (-1)) (by rw [hq1.out, htr.out (by omega) (by omega)]; try rfl)).mono ?_
            rintro e w6 ⟨rfl, hb6⟩
            have HB6 : Hid (Below w.heap.size w w6) := HB5.out.trans (hb6.mono HB5.out.size)
            clear hb6
            go_wp2_with fail
            refine (awake_any _).mono ?_
            rintro e w7 ⟨rfl, hb⟩
            go_wp2
            go_ret
            exact ⟨rfl, HB6.out.trans (hb.mono HB6.out.size)⟩
          · go_wp2_with fail
            refine (awake_any _).mono ?_
            rintro e w6 ⟨rfl, hb⟩
            go_wp2
            go_ret
            exact ⟨rfl, HB5.out.trans (hb.mono HB5.out.size)⟩
        · have hbeq : (s.toList == t.toList) = true := by rw [heq.out]; rfl
          go_wp2_with fail
          refine (mono_eq (compare_any nm UA LA un uc ln lc L t s w3 w3.heap.size (HL.out.on HB3.out) (Nat.le_refl _) HSZ.out (by omega) (by omega)) (v' := .int .i64 0) (by rw [hanti.out]; try rfl)).mono ?_
          rintro e w4 ⟨rfl, hb4⟩
          have HB4 : Hid (Below w.heap.size w w4) := HB3.out.trans (hb4.mono HB3.out.size)
          have HX4 := Lib.hid (HX3.out.on hb4 hsz3)
          have hsz4 : w.heap.size < w4.heap.size := by have := hb4.size; omega
          clear hb4 y0 y1 y2 y3
          obtain ⟨y0, y1, y2, y3⟩ := HX4.out
          go_wp2_with fail
          refine (mono_eq (compare_any nm UA LA un uc ln lc L s s w4 w4.heap.size (HL.out.on HB4.out) (Nat.le_refl _) HSZ.out (by omega) (by omega)) (v' := .int .i64 0) (by rw [hself.out])).mono ?_
          rintro e w5 ⟨rfl, hb5⟩
          have HB5 : Hid (Below w.heap.size w w5) := HB4.out.trans (hb5.mono HB4.out.size)
          have HX5 := Lib.hid (HX4.out.on hb5 hsz4)
          have hsz5 : w.heap.size < w5.heap.size := by have := hb5.size; omega
          clear hb5 y0 y1 y2 y3
          obtain ⟨y0, y1, y2, y3⟩ := HX5.out
          rcases hrm with rfl | rfl | rfl
          · go_wp2_with fail
            refine (mono_eq (compare_any nm UA LA un uc ln lc L s u w5 w5.heap.size (HL.out.on HB5.out) (Nat.le_refl _) HSZ.out (by omega) (by omega)) (v' := .int .i64 (-1)) (by rw [hq1.out, htr.out (by omega) (by omega)]; try rfl)).mono ?_
            rintro e w6 ⟨rfl, hb6⟩
            have HB6 : Hid (Below w.heap.size w w6) := HB5.out.trans (hb6.mono HB5.out.size)
            clear hb6
            go_wp2_with fail
            refine (awake_any _).mono ?_
            rintro e w7 ⟨rfl, hb⟩
            go_wp2
            go_ret
            exact ⟨rfl, HB6.out.trans (hb.mono HB6.out.size)⟩
          · go_wp2_with fail
            refine (mono_eq (compare_any nm UA LA un uc ln lc L s u w5 w5.heap.size (HL.out.on HB5.out) (Nat.le_refl _) HSZ.out (by omega) (by omega)) (v' := .int .i64 0) (by rw [hq1.out, htr.out (by omega) (by omega)]; try rfl)).mono ?_
            rintro e w6 ⟨rfl, hb6⟩
            have HB6 : Hid (Below w.heap.size w w6) := HB5.out.trans (hb6.mono HB5.out.size)
            clear hb6
            go_wp2_with fail
            refine (awake_any _).mono ?_
            rintro e w7 ⟨rfl, hb⟩
            go_wp2
            go_ret
            exact ⟨rfl, HB6.out.trans (hb.mono HB6.out.size)⟩
          · go_wp2_with fail
            refine (awake_any _).mono ?_
            rintro e w6 ⟨rfl, hb⟩
            go_wp2
            go_ret
            exact ⟨rfl, HB5.out.trans (hb.mono HB5.out.size)⟩
        · have hbeq : (s.toList == t.toList) = false := by rw [heq.out]; rfl
          go_wp2_with fail
          refine (mono_eq (compare_any nm UA LA un uc ln lc L t s w3 w3.heap.size (HL.out.on HB3.out) (Nat.le_refl _) HSZ.out (by omega) (by omega)) (v' := .int .i64 (-1)) (by rw [hanti.out]; try rfl)).mono ?_
          rintro e w4 ⟨rfl, hb4⟩
          have HB4 : Hid (Below w.heap.size w w4) := HB3.out.trans (hb4.mono HB3.out.size)
          have HX4 := Lib.hid (HX3.out.on hb4 hsz3)
          have hsz4 : w.heap.size < w4.heap.size := by have := hb4.size; omega
          clear hb4 y0 y1 y2 y3
          obtain ⟨y0, y1, y2, y3⟩ := HX4.out
          go_wp2_with fail
          refine (mono_eq (compare_any nm UA LA un uc ln lc L s s w4 w4.heap.size (HL.out.on HB4.out) (Nat.le_refl _) HSZ.out (by omega) (by omega)) (v' := .int .i64 0) (by rw [hself.out])).mono ?_
          rintro e w5 ⟨rfl, hb5⟩
          have HB5 : Hid (Below w.heap.size w w5) := HB4.out.trans (hb5.mono HB4.out.size)
          have HX5 := Lib.hid (HX4.out.on hb5 hsz4)
          have hsz5 : w.heap.size < w5.heap.size := by have := hb5.size; omega
          clear hb5 y0 y1 y2 y3
          obtain ⟨y0, y1, y2, y3⟩ := HX5.out
          go_wp2_with fail
          refine (awake_any _).mono ?_
          rintro e w6 ⟨rfl, hb⟩
          go_wp2
          go_ret
          exact ⟨rfl, HB5.out.trans (hb.mono HB5.out.size)⟩
end Go.Proofs.Ytgbhpmbkhhbifaa
