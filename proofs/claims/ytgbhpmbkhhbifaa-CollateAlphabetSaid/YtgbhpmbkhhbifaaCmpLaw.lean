/-
  CollateCompares, walked: it returns true, and nothing that was there has changed.
-/
import Derived.Test.YtgbhpmbkhhbifaaLetLaw
namespace Go.Proofs.Ytgbhpmbkhhbifaa
open Go.RowKit Col Srt
set_option linter.unusedVariables false
set_option linter.unusedSimpArgs false

set_option maxHeartbeats 4000000 in
set_option maxRecDepth 100000 in
theorem compares_law (SA UA LA : Option Addr) (sn sc un uc ln lc : Nat) (nm : ByteArray) (S : List (ByteArray × Int)) (U : List (ByteArray × List Int)) (L : List (List ByteArray)) (w : World) (hS : SegsR w w.heap.size SA sn S) (hU : UnitsR w w.heap.size UA un U) (hL : RowsR w w.heap.size LA ln L)
    (hnm : nm.size ≤ 9223372036854775807) (s t : ByteArray) :
    Calls Try.prog 4 #[.agg #[.slice SA sn sc, .string nm, .slice UA un uc, .slice LA ln lc], .string s, .string t] w fun e w' => e = .returned (.bool true) ∧ Below w.heap.size w w' := by
  have hbe := below_new w (.cells #[.slice SA sn sc, .string nm, .slice UA un uc, .slice LA ln lc] 30)
  have hr := right_any SA UA LA sn sc un uc ln lc nm S U L (w.alloc (.cells #[.slice SA sn sc, .string nm, .slice UA un uc, .slice LA ln lc] 30)) ((hS.below hbe).more hbe.size) ((hU.below hbe).more hbe.size) (hL.on hbe) hnm
  obtain ⟨rb, hrb⟩ : ∃ rb, Hid (rightB S nm U L = rb) := ⟨_, rfl⟩
  rw [hrb.out] at hr
  have HR := Lib.hid hr; clear hr
  have HBE := Lib.hid hbe; clear hbe
  have HL := Lib.hid hL; clear hL hS hU
  cases rb with
  | false =>
    go_enter Try.func4, Try.ntmps4
    go_wp2_with fail
    refine HR.out.mono ?_
    rintro e w1 ⟨rfl, hb1⟩
    have HB1 : Hid (Below w.heap.size w w1) := HBE.out.trans (hb1.mono HBE.out.size)
    clear hb1
    go_wp2_with fail
    refine (awake_any _).mono ?_
    rintro e w2 ⟨rfl, hb2⟩
    go_wp2
    go_ret
    exact ⟨rfl, HB1.out.trans (hb2.mono HB1.out.size)⟩
  | true =>
    by_cases hs : s.size ≤ 80
    · have hsz : decide ((80 : Int) < (s.size : Int)) = false := decide_eq_false (by omega)
      by_cases ht : t.size ≤ 80
      · have htz : decide ((80 : Int) < (t.size : Int)) = false := decide_eq_false (by omega)
        have HSZ := Lib.hid (right_sized hrb.out)
        go_enter Try.func4, Try.ntmps4
        go_wp2_with fail
        refine HR.out.mono ?_
        rintro e w1 ⟨rfl, hb1⟩
        have HB1 : Hid (Below w.heap.size w w1) := HBE.out.trans (hb1.mono HBE.out.size)
        have HX1 : Hid (BoxA w1 w.heap.size SA sn sc nm UA un uc LA ln lc) := (BoxA.new w SA sn sc nm UA un uc LA ln lc 30).on hb1 (by simp)
        have hsz1 : w.heap.size < w1.heap.size := by have := hb1.size; simp at this; omega
        clear hb1
        obtain ⟨r, hr⟩ : ∃ r, Hid (cmpS L s.data.toList t.data.toList = r) := ⟨_, rfl⟩
        have x1 : ∀ p : BW w1, p.at_.cell? ⟨w.heap.size, 1, none⟩ = some (.string nm) := fun p => (HX1.out.on p.bel hsz1).name
        have x2 : ∀ p : BW w1, p.at_.cell? ⟨w.heap.size, 2, none⟩ = some (.slice UA un uc) := fun p => (HX1.out.on p.bel hsz1).units
        have x3 : ∀ p : BW w1, p.at_.cell? ⟨w.heap.size, 3, none⟩ = some (.slice LA ln lc) := fun p => (HX1.out.on p.bel hsz1).letters
        have K1 : Hid (∀ p : BW w1, Calls Try.prog 18 #[.agg #[.string nm, .slice UA un uc, .slice LA ln lc], .string s, .string t] p.at_ fun e w'' => e = .returned (.int .i64 r) ∧ ∃ q : BW w1, w'' = q.at_) := fun p =>
          below_quiet (mono_eq (compare_any nm UA LA un uc ln lc L s t p.at_ p.at_.heap.size (HL.out.on (HB1.out.trans (p.bel.mono HB1.out.size))) (Nat.le_refl _) HSZ.out (by omega) (by omega)) (by rw [hr.out]))
        have K2 : Hid (∀ p : BW w1, Calls Try.prog 19 #[.agg #[.string nm, .slice UA un uc, .slice LA ln lc], .string s, .string t] p.at_ fun e w'' => e = .returned (.int .i64 r) ∧ ∃ q : BW w1, w'' = q.at_) := fun p =>
          below_quiet (mono_eq (refCompare_any nm UA LA un uc ln lc L s t p.at_ p.at_.heap.size (HL.out.on (HB1.out.trans (p.bel.mono HB1.out.size))) (Nat.le_refl _) HSZ.out (by omega) (by omega)) (by rw [hr.out]))
        have AW : Hid (∀ p : BW w1, Calls Try.prog 12 #[] p.at_ fun e w'' => e = .returned (.bool true) ∧ ∃ q : BW w1, w'' = q.at_) := fun p => below_quiet (awake_any p.at_)
        clear HX1
        go_wp2_with fail
        refine wp_region_quiet_below (by kernel_rfl) (by kernel_rfl) ?_
        repeat (go_big_quiet_step ((first
          | (go_at_call 18; (with_reducible exact K1.out _))
          | (go_at_call 19; (with_reducible exact K2.out _))
          | (go_at_call 12; (with_reducible exact AW.out _)))))
        refine wpQuiet_nil ?_
        intro w2 hw'
        have hb2 := bw_below hw'
        clear hw'
        have HB2 : Hid (Below w.heap.size w w2) := HB1.out.trans (hb2.mono HB1.out.size)
        clear hb2
        go_wp2
        go_ret
        exact ⟨rfl, HB2.out⟩
      · have htz : decide ((80 : Int) < (t.size : Int)) = true := decide_eq_true (by omega)
        go_enter Try.func4, Try.ntmps4
        go_wp2_with fail
        refine HR.out.mono ?_
        rintro e w1 ⟨rfl, hb1⟩
        have HB1 : Hid (Below w.heap.size w w1) := HBE.out.trans (hb1.mono HBE.out.size)
        clear hb1
        go_wp2_with fail
        refine (awake_any _).mono ?_
        rintro e w2 ⟨rfl, hb2⟩
        go_wp2
        go_ret
        exact ⟨rfl, HB1.out.trans (hb2.mono HB1.out.size)⟩
    · have hsz : decide ((80 : Int) < (s.size : Int)) = true := decide_eq_true (by omega)
      go_enter Try.func4, Try.ntmps4
      go_wp2_with fail
      refine HR.out.mono ?_
      rintro e w1 ⟨rfl, hb1⟩
      have HB1 : Hid (Below w.heap.size w w1) := HBE.out.trans (hb1.mono HBE.out.size)
      clear hb1
      go_wp2_with fail
      refine (awake_any _).mono ?_
      rintro e w2 ⟨rfl, hb2⟩
      go_wp2
      go_ret
      exact ⟨rfl, HB1.out.trans (hb2.mono HB1.out.size)⟩
end Go.Proofs.Ytgbhpmbkhhbifaa
