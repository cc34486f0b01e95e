/-
  CollateHeads, walked: it returns true, and nothing that was there has changed.
-/
import Derived.Test.YtgbhpmbkhhbifaaPlainHeads
import Derived.Test.YtgbhpmbkhhbifaaCmpLaw
namespace Go.Proofs.Ytgbhpmbkhhbifaa
open Go.RowKit Col Srt
set_option linter.unusedVariables false
set_option linter.unusedSimpArgs false

set_option maxHeartbeats 4000000 in
set_option maxRecDepth 100000 in
theorem heads_law (SA UA LA : Option Addr) (sn sc un uc ln lc : Nat) (nm : ByteArray) (S : List (ByteArray × Int)) (U : List (ByteArray × List Int)) (L : List (List ByteArray)) (w : World) (hS : SegsR w w.heap.size SA sn S) (hU : UnitsR w w.heap.size UA un U) (hL : RowsR w w.heap.size LA ln L)
    (hnm : nm.size ≤ 9223372036854775807) (i : Int) :
    Calls Try.prog 6 #[.agg #[.slice SA sn sc, .string nm, .slice UA un uc, .slice LA ln lc], .int .i64 i] w fun e w' => e = .returned (.bool true) ∧ Below w.heap.size w w' := by
  have hbe := below_new w (.cells #[.slice SA sn sc, .string nm, .slice UA un uc, .slice LA ln lc] 30)
  obtain ⟨rb, hrb⟩ : ∃ rb, Hid (rightB S nm U L = rb) := ⟨_, rfl⟩
  have HBE := Lib.hid hbe; clear hbe
  have HL := Lib.hid hL
  have HS := Lib.hid hS
  have HU := Lib.hid hU
  clear hL hS hU
  have HR : Hid (∀ p : World, Below w.heap.size w p → Calls Try.prog 11 #[.agg #[.slice SA sn sc, .string nm, .slice UA un uc, .slice LA ln lc]] p fun e w' => e = .returned (.bool rb) ∧ Below p.heap.size p w') := fun p b => by
    have hr := right_any SA UA LA sn sc un uc ln lc nm S U L p ((HS.out.below b).more b.size) ((HU.out.below b).more b.size) (HL.out.on b) hnm
    rw [hrb.out] at hr
    exact hr
  have HX0 : Hid (BoxA (w.alloc (.cells #[.slice SA sn sc, .string nm, .slice UA un uc, .slice LA ln lc] 30)) w.heap.size SA sn sc nm UA un uc LA ln lc) := BoxA.new w SA sn sc nm UA un uc LA ln lc 30
  obtain ⟨w0, hw0⟩ : ∃ w0, w0 = (w.alloc (.cells #[.slice SA sn sc, .string nm, .slice UA un uc, .slice LA ln lc] 30)) := ⟨_, rfl⟩
  rw [← hw0] at HBE HX0
  have hsz0 : w.heap.size < w0.heap.size := by rw [hw0]; simp
  have K0 : Hid (∀ p : BW w0, Calls Try.prog 11 #[.agg #[.slice SA sn sc, .string nm, .slice UA un uc, .slice LA ln lc]] p.at_ fun e w' => e = .returned (.bool rb) ∧ ∃ q : BW w0, w' = q.at_) := fun p => below_quiet (HR.out p.at_ (HBE.out.trans (p.bel.mono HBE.out.size)))
  have x0 : ∀ p : BW w0, p.at_.cell? ⟨w.heap.size, 0, none⟩ = some (.slice SA sn sc) := fun p => (HX0.out.on p.bel hsz0).inv
  have x1 : ∀ p : BW w0, p.at_.cell? ⟨w.heap.size, 1, none⟩ = some (.string nm) := fun p => (HX0.out.on p.bel hsz0).name
  have x2 : ∀ p : BW w0, p.at_.cell? ⟨w.heap.size, 2, none⟩ = some (.slice UA un uc) := fun p => (HX0.out.on p.bel hsz0).units
  have x3 : ∀ p : BW w0, p.at_.cell? ⟨w.heap.size, 3, none⟩ = some (.slice LA ln lc) := fun p => (HX0.out.on p.bel hsz0).letters
  cases rb with
  | false =>
    go_enter Try.func6, Try.ntmps6
    go_wp2_with fail
    rw [← hw0]
    refine wp_region_quiet_below (by kernel_rfl) (by kernel_rfl) ?_
    repeat (go_big_quiet_step ((first
      | (go_at_call 11; (with_reducible exact K0.out _)))))
    refine wpQuiet_nil ?_
    intro w1 hw'
    have hb1 := bw_below hw'
    clear hw'
    have HB1 : Hid (Below w.heap.size w w1) := HBE.out.trans (hb1.mono HBE.out.size)
    have HX1 := Lib.hid (HX0.out.on hb1 hsz0)
    have hsz1 : w.heap.size < w1.heap.size := by have := hb1.size; omega
    clear x0 x1 x2 x3 hb1
    obtain ⟨x0, x1, x2, x3⟩ := HX1.out
    go_wp2_with fail
    refine (HR.out _ HB1.out).mono ?_
    rintro e w2 ⟨rfl, hb2⟩
    have HB2 : Hid (Below w.heap.size w w2) := HB1.out.trans (hb2.mono HB1.out.size)
    clear hb2
    go_wp2_with fail
    refine (awake_any _).mono ?_
    rintro e w3 ⟨rfl, hb3⟩
    go_wp2
    go_ret
    exact ⟨rfl, HB2.out.trans (hb3.mono HB2.out.size)⟩
  | true =>
    have HSZ := Lib.hid (right_sized hrb.out)
    have HFU := Lib.hid (right_full hrb.out)
    have HSEC : Hid (∀ k : Nat, k < ln → Col.section_ L (Col.headOf L (k : Int)).data.toList = (k : Int) ∧ (Col.headOf L (k : Int)).size ≤ 140737488355328) := fun k hk => by
      have hkl : k < L.length := by rw [HL.out.len]; exact hk
      refine ⟨section_head hrb.out hkl, ?_⟩
      have hl : L[k]? = some L[k] := List.getElem?_eq_getElem hkl
      rw [Col.headOf_in hl]
      have hne := HFU.out L[k] (List.getElem_mem hkl)
      have hsz := HSZ.out.2 L[k] (List.getElem_mem hkl)
      cases hh : L[k] with
      | nil => exact absurd hh hne
      | cons x r =>
        rw [hh] at hsz
        have := hsz.2 x (by simp)
        simp only [List.headD_cons]
        omega
    have hlnz : ln ≤ 140737488355328 := by
      have := HSZ.out.1
      rw [HL.out.len] at this
      omega
    obtain ⟨hd, hhd⟩ : ∃ x, Hid (Col.headOf L i = x) := ⟨_, rfl⟩
    have K1 : Hid (∀ p : BW w0, Calls Try.prog 24 #[.agg #[.string nm, .slice UA un uc, .slice LA ln lc], .int .i64 i] p.at_ fun e w' => e = .returned (.string hd) ∧ ∃ q : BW w0, w' = q.at_) := fun p =>
      below_quiet (mono_eq (head_any nm UA LA un uc ln lc L i p.at_ p.at_.heap.size (HL.out.on (HBE.out.trans (p.bel.mono HBE.out.size))) (Nat.le_refl _) HSZ.out) (by rw [hhd.out]))
    have K2 : Hid (∀ p : BW w0, Calls Try.prog 25 #[.agg #[.string nm, .slice UA un uc, .slice LA ln lc], .int .i64 i] p.at_ fun e w' => e = .returned (.string hd) ∧ ∃ q : BW w0, w' = q.at_) := fun p =>
      below_quiet (mono_eq (refHead_any nm UA LA un uc ln lc L i p.at_ p.at_.heap.size (HL.out.on (HBE.out.trans (p.bel.mono HBE.out.size))) (Nat.le_refl _) HSZ.out HFU.out) (by rw [hhd.out]))
    go_enter Try.func6, Try.ntmps6
    go_wp2_with fail
    rw [← hw0]
    refine wp_region_quiet_below (by kernel_rfl) (by kernel_rfl) ?_
    repeat (go_big_quiet_step ((first
      | (go_at_call 11; (with_reducible exact K0.out _))
      | (go_at_call 24; (with_reducible exact K1.out _))
      | (go_at_call 25; (with_reducible exact K2.out _)))))
    refine wpQuiet_nil ?_
    intro w1 hw'
    have hb1 := bw_below hw'
    clear hw'
    have HB1 : Hid (Below w.heap.size w w1) := HBE.out.trans (hb1.mono HBE.out.size)
    have HX1 := Lib.hid (HX0.out.on hb1 hsz0)
    have hsz1 : w.heap.size < w1.heap.size := by have := hb1.size; omega
    clear x0 x1 x2 x3 hb1 K0 K1 K2
    obtain ⟨x0, x1, x2, x3⟩ := HX1.out
    go_wp2_with fail
    clear x0 x1 x2 x3
    go_loopw [5, 30] (fun _ v wr => ∃ k : Nat, k ≤ ln ∧ v = .int .i64 k ∧ Hid (Below w1.heap.size w1 wr)) (fun _ v _ => ln - (intOf v).toNat)
    case atStart => exact ⟨0, Nat.zero_le _, rfl, Below.refl _ _⟩
    case round =>
      obtain ⟨k, hk, rfl, HBR⟩ := hrel
      have HB2 : Hid (Below w.heap.size w wr) := HB1.out.trans (HBR.out.mono HB1.out.size)
      by_cases hlt : k < ln
      · have hkz : (k : Int) < (ln : Int) := by omega
        have HX2 := Lib.hid (HX1.out.on HBR.out hsz1)
        have hsz2 : w.heap.size < wr.heap.size := by have := HBR.out.size; omega
        obtain ⟨hd', hhd'⟩ : ∃ x, Hid (Col.headOf L (k : Int) = x) := ⟨_, rfl⟩
        have hsec := HSEC.out k hlt
        rw [hhd'.out] at hsec
        have HSE := Lib.hid hsec; clear hsec
        have x1 : ∀ p : BW wr, p.at_.cell? ⟨w.heap.size, 1, none⟩ = some (.string nm) := fun p => (HX2.out.on p.bel hsz2).name
        have x2 : ∀ p : BW wr, p.at_.cell? ⟨w.heap.size, 2, none⟩ = some (.slice UA un uc) := fun p => (HX2.out.on p.bel hsz2).units
        have x3 : ∀ p : BW wr, p.at_.cell? ⟨w.heap.size, 3, none⟩ = some (.slice LA ln lc) := fun p => (HX2.out.on p.bel hsz2).letters
        have K1 : Hid (∀ p : BW wr, Calls Try.prog 24 #[.agg #[.string nm, .slice UA un uc, .slice LA ln lc], .int .i64 (k : Int)] p.at_ fun e w' => e = .returned (.string hd') ∧ ∃ q : BW wr, w' = q.at_) := fun p =>
          below_quiet (mono_eq (head_any nm UA LA un uc ln lc L k p.at_ p.at_.heap.size (HL.out.on (HB2.out.trans (p.bel.mono HB2.out.size))) (Nat.le_refl _) HSZ.out) (by rw [hhd'.out]))
        have K2 : Hid (∀ p : BW wr, Calls Try.prog 16 #[.agg #[.string nm, .slice UA un uc, .slice LA ln lc], .string hd'] p.at_ fun e w' => e = .returned (.int .i64 (k : Int)) ∧ ∃ q : BW wr, w' = q.at_) := fun p =>
          below_quiet (mono_eq (section_any nm UA LA un uc ln lc L hd' p.at_ p.at_.heap.size (HL.out.on (HB2.out.trans (p.bel.mono HB2.out.size))) (Nat.le_refl _) HSZ.out HSE.out.2) (by rw [HSE.out.1]))
        go_wp2_with fail
        refine wp_region_quiet_below (by kernel_rfl) (by kernel_rfl) ?_
        repeat (go_big_quiet_step ((first
          | (go_at_call 24; (with_reducible exact K1.out _))
          | (go_at_call 16; (with_reducible exact K2.out _)))))
        refine wpQuiet_nil ?_
        intro w3 hw'
        have hb3 := bw_below hw'
        clear hw' x1 x2 x3 K1 K2
        have HB3 : Hid (Below w1.heap.size w1 w3) := HBR.out.trans (hb3.mono HBR.out.size)
        clear hb3
        go_wp2
        go_roundw
        case rel => exact ⟨k + 1, by omega, by go_num, HB3⟩
        case measure => simp [intOf]; omega
      · have hlt' : ¬ (k : Int) < (ln : Int) := by omega
        go_wp2_with fail
        refine (awake_any _).mono ?_
        rintro e w3 ⟨rfl, hb3⟩
        go_wp2
        go_ret
        exact ⟨rfl, HB2.out.trans (hb3.mono HB2.out.size)⟩
end Go.Proofs.Ytgbhpmbkhhbifaa
