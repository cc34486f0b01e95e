/-
  CollateLetters, walked: whatever the alphabet and the string, it returns true, and nothing that was there has changed.
-/
import Derived.Test.YtgbhpmbkhhbifaaAwakeAll
import Derived.Test.YtgbhpmbkhhbifaaRight
import Derived.Test.YtgbhpmbkhhbifaaQuietB
namespace Go.Proofs.Ytgbhpmbkhhbifaa
open Go.RowKit Col
set_option linter.unusedVariables false
set_option linter.unusedSimpArgs false

/-- The alphabet lies in box b. -/
structure BoxA (w : World) (b : Nat) (SA : Option Addr) (sn sc : Nat) (nm : ByteArray) (UA : Option Addr) (un uc : Nat) (LA : Option Addr) (ln lc : Nat) : Prop where
  inv : w.cell? ⟨b, 0, none⟩ = some (.slice SA sn sc)
  name : w.cell? ⟨b, 1, none⟩ = some (.string nm)
  units : w.cell? ⟨b, 2, none⟩ = some (.slice UA un uc)
  letters : w.cell? ⟨b, 3, none⟩ = some (.slice LA ln lc)
theorem BoxA.on {w w' : World} {b B : Nat} {SA : Option Addr} {sn sc : Nat} {nm : ByteArray} {UA : Option Addr} {un uc : Nat} {LA : Option Addr} {ln lc : Nat} (h : BoxA w b SA sn sc nm UA un uc LA ln lc) (hb : Below B w w') (hB : b < B) : BoxA w' b SA sn sc nm UA un uc LA ln lc :=
  ⟨(hb.cell (p := ⟨b, 0, none⟩) hB).trans h.inv, (hb.cell (p := ⟨b, 1, none⟩) hB).trans h.name, (hb.cell (p := ⟨b, 2, none⟩) hB).trans h.units, (hb.cell (p := ⟨b, 3, none⟩) hB).trans h.letters⟩
theorem BoxA.new (w : World) (SA : Option Addr) (sn sc : Nat) (nm : ByteArray) (UA : Option Addr) (un uc : Nat) (LA : Option Addr) (ln lc : Nat) (e : TypeId) :
    BoxA (w.alloc (.cells #[.slice SA sn sc, .string nm, .slice UA un uc, .slice LA ln lc] e)) w.heap.size SA sn sc nm UA un uc LA ln lc := by
  refine ⟨?_, ?_, ?_, ?_⟩ <;> (rw [World.cell?_alloc_at _ _ _ _ rfl]; rfl)
/-- What 'right' says of the alphabet. -/
theorem right_sized {S : List (ByteArray × Int)} {nm : ByteArray} {U : List (ByteArray × List Int)} {L : List (List ByteArray)} (h : rightB S nm U L = true) : SizedL L := by
  unfold rightB at h
  rw [Bool.and_eq_true] at h
  have h1 := h.1
  unfold smallB at h1
  simp only [Bool.and_eq_true] at h1
  obtain ⟨⟨_, _, hl, _⟩, _, _, ha⟩ := h1
  refine ⟨by have := of_decide_eq_true hl; omega, fun l hm => ?_⟩
  obtain ⟨i, hi⟩ := List.getElem?_of_mem hm
  have hil := (List.getElem?_eq_some_iff.1 hi).1
  have hx := Ok.allTo_iff.1 ha i hil
  rw [Bool.and_eq_true] at hx
  have e1 : L.getD i [] = l := by rw [List.getD, hi]; rfl
  rw [e1] at hx
  refine ⟨by have := of_decide_eq_true hx.1; omega, fun s hs => ?_⟩
  obtain ⟨k, hk⟩ := List.getElem?_of_mem hs
  have hkl := (List.getElem?_eq_some_iff.1 hk).1
  have hy := of_decide_eq_true (Ok.allTo_iff.1 hx.2 k hkl)
  have e2 : vari L i k = s := by unfold vari; rw [e1, List.getD, hk]; rfl
  rw [e2] at hy
  omega
theorem same_true {w : World} {p : BW w} {A B : Option Addr} {n m c d : Nat} {xs : List Value} (l : List Int) (hl : xs = l.map (.int .i64)) (ha : Reads w w.heap.size 1 A n xs) (hb : Reads w w.heap.size 1 B m xs) (hn : n ≤ 9223372036854775807) (hm : m ≤ 9223372036854775807) :
    Calls Try.prog 15 #[.slice A n c, .slice B m d] p.at_ fun e w'' => e = .returned (.bool true) ∧ ∃ q : BW w, w'' = q.at_ := by
  subst hl
  exact drew_quiet (mono_eq (same_ints A B n m c d l l p.at_ (ha.on p.bel) (hb.on p.bel) hn hm) (by simp))

set_option maxHeartbeats 4000000 in
set_option maxRecDepth 100000 in
theorem letters_law (SA UA LA : Option Addr) (sn sc un uc ln lc : Nat) (nm s : ByteArray) (S : List (ByteArray × Int)) (U : List (ByteArray × List Int)) (L : List (List ByteArray)) (w : World) (hS : SegsR w w.heap.size SA sn S) (hU : UnitsR w w.heap.size UA un U) (hL : RowsR w w.heap.size LA ln L)
    (hnm : nm.size ≤ 9223372036854775807) :
    Calls Try.prog 3 #[.agg #[.slice SA sn sc, .string nm, .slice UA un uc, .slice LA ln lc], .string s] w fun e w' => e = .returned (.bool true) ∧ Below w.heap.size w w' := by
  have hbe := below_new w (.cells #[.slice SA sn sc, .string nm, .slice UA un uc, .slice LA ln lc] 30)
  have hr := right_any SA UA LA sn sc un uc ln lc nm S U L (w.alloc (.cells #[.slice SA sn sc, .string nm, .slice UA un uc, .slice LA ln lc] 30)) ((hS.below hbe).more hbe.size) ((hU.below hbe).more hbe.size) (hL.on hbe) hnm
  obtain ⟨rb, hrb⟩ : ∃ rb, Hid (rightB S nm U L = rb) := ⟨_, rfl⟩
  rw [hrb.out] at hr
  have HR := Lib.hid hr; clear hr
  have HBE := Lib.hid hbe; clear hbe
  have HL := Lib.hid hL; clear hL hS hU
  cases rb with
  | false =>
    go_enter Try.func3, Try.ntmps3
    go_wp2_with fail
    refine HR.out.mono ?_
    rintro e w1 ⟨rfl, hb1⟩
    have HB1 : Hid (Below w.heap.size w w1) := HBE.out.trans (hb1.mono HBE.out.size)
    clear hb1
    go_wp2_with fail
    refine (awake_any _).mono ?_
    rintro e w2 ⟨rfl, hb2⟩
    go_wp2
    go_ret
    exact ⟨rfl, HB1.out.trans (hb2.mono HB1.out.size)⟩
  | true =>
    by_cases hs : s.size ≤ 80
    · have hsz : decide ((80 : Int) < (s.size : Int)) = false := decide_eq_false (by omega)
      have HSZ := Lib.hid (right_sized hrb.out)
      obtain ⟨d, hd⟩ : ∃ d, Hid (letters L s.data.toList = d) := ⟨_, rfl⟩
      have hdl : d.length ≤ 80 := by
        have := letters_length L _ s.data.toList (Nat.le_refl _)
        rw [hd.out, ← Lib.size_eq] at this
        omega
      go_enter Try.func3, Try.ntmps3
      go_wp2_with fail
      refine HR.out.mono ?_
      rintro e w1 ⟨rfl, hb1⟩
      have HB1 : Hid (Below w.heap.size w w1) := HBE.out.trans (hb1.mono HBE.out.size)
      have HX1 : Hid (BoxA w1 w.heap.size SA sn sc nm UA un uc LA ln lc) := (BoxA.new w SA sn sc nm UA un uc LA ln lc 30).on hb1 (by simp)
      have hsz1 : w.heap.size < w1.heap.size := by have := hb1.size; simp at this; omega
      obtain ⟨x0, x1, x2, x3⟩ := HX1.out
      have hlt := letters_any nm UA LA un uc ln lc L s w1 w1.heap.size (HL.out.on HB1.out) (Nat.le_refl _) HSZ.out (by omega)
      rw [hd.out] at hlt
      have HLT := Lib.hid hlt
      clear hb1 hlt
      go_wp2_with fail
      refine HLT.out.mono ?_
      rintro e w2 ⟨va, vb, rfl, hva, hvb, hb2⟩
      obtain ⟨A1, c1, rfl, _, _, ra⟩ := own_form hva
      obtain ⟨A2, c2, rfl, _, _, rb⟩ := own_form hvb
      have RA := Lib.hid ra; have RB := Lib.hid rb
      have HB2 : Hid (Below w.heap.size w w2) := HB1.out.trans (hb2.mono HB1.out.size)
      have HX2 := Lib.hid (HX1.out.on hb2 hsz1)
      have hsz2 : w.heap.size < w2.heap.size := by have := hb2.size; omega
      have hlt := refLetters_any nm UA LA un uc ln lc L s w2 w2.heap.size (HL.out.on HB2.out) (Nat.le_refl _) HSZ.out (by omega)
      rw [hd.out] at hlt
      have HLT2 := Lib.hid hlt
      clear hb2 hlt HLT hva hvb ra rb x0 x1 x2 x3 HX1
      obtain ⟨x0, x1, x2, x3⟩ := HX2.out
      go_wp2_with fail
      refine HLT2.out.mono ?_
      rintro e w3 ⟨va, vb, rfl, hva, hvb, hb3⟩
      obtain ⟨A3, c3, rfl, _, _, ra⟩ := own_form hva
      obtain ⟨A4, c4, rfl, _, _, rb⟩ := own_form hvb
      have RC := Lib.hid ra; have RD := Lib.hid rb
      have RA' := Lib.hid (RA.out.on hb3); have RB' := Lib.hid (RB.out.on hb3)
      have HB3 : Hid (Below w.heap.size w w3) := HB2.out.trans (hb3.mono HB2.out.size)
      have HX3 := Lib.hid (HX2.out.on hb3 hsz2)
      have hsz3 : w.heap.size < w3.heap.size := by have := hb3.size; omega
      clear hb3 HLT2 hva hvb ra rb x0 x1 x2 x3 HX2 RA RB
      have x1 : ∀ p : BW w3, p.at_.cell? ⟨w.heap.size, 1, none⟩ = some (.string nm) := fun p => (HX3.out.on p.bel hsz3).name
      have x2 : ∀ p : BW w3, p.at_.cell? ⟨w.heap.size, 2, none⟩ = some (.slice UA un uc) := fun p => (HX3.out.on p.bel hsz3).units
      have x3 : ∀ p : BW w3, p.at_.cell? ⟨w.heap.size, 3, none⟩ = some (.slice LA ln lc) := fun p => (HX3.out.on p.bel hsz3).letters
      have S1 : Hid (∀ p : BW w3, Calls Try.prog 15 #[.slice A1 d.length c1, .slice A3 d.length c3] p.at_ fun e w'' => e = .returned (.bool true) ∧ ∃ q : BW w3, w'' = q.at_) := fun p =>
        same_true (d.map fun x => (x.1 : Int)) (by simp [prim, List.map_map, Function.comp_def]) RA'.out RC.out (by omega) (by omega)
      have S2 : Hid (∀ p : BW w3, Calls Try.prog 15 #[.slice A2 d.length c2, .slice A4 d.length c4] p.at_ fun e w'' => e = .returned (.bool true) ∧ ∃ q : BW w3, w'' = q.at_) := fun p =>
        same_true (d.map fun x => (x.2.1 : Int)) (by simp [secd, List.map_map, Function.comp_def]) RB'.out RD.out (by omega) (by omega)
      obtain ⟨sec, hsec⟩ : ∃ sec, Hid (section_ L s.data.toList = sec) := ⟨_, rfl⟩
      have C1 : Hid (∀ p : BW w3, Calls Try.prog 16 #[.agg #[.string nm, .slice UA un uc, .slice LA ln lc], .string s] p.at_ fun e w'' => e = .returned (.int .i64 sec) ∧ ∃ q : BW w3, w'' = q.at_) := fun p =>
        below_quiet (mono_eq (section_any nm UA LA un uc ln lc L s p.at_ p.at_.heap.size (HL.out.on (HB3.out.trans (p.bel.mono HB3.out.size))) (Nat.le_refl _) HSZ.out (by omega)) (by rw [hsec.out]))
      have C2 : Hid (∀ p : BW w3, Calls Try.prog 17 #[.agg #[.string nm, .slice UA un uc, .slice LA ln lc], .string s] p.at_ fun e w'' => e = .returned (.int .i64 sec) ∧ ∃ q : BW w3, w'' = q.at_) := fun p =>
        below_quiet (mono_eq (refSection_any nm UA LA un uc ln lc L s p.at_ p.at_.heap.size (HL.out.on (HB3.out.trans (p.bel.mono HB3.out.size))) (Nat.le_refl _) HSZ.out (by omega)) (by rw [hsec.out]))
      have C3 : Hid (∀ p : BW w3, Calls Try.prog 12 #[] p.at_ fun e w'' => e = .returned (.bool true) ∧ ∃ q : BW w3, w'' = q.at_) := fun p => below_quiet (awake_any p.at_)
      clear HX3 RA' RB' RC RD
      obtain ⟨al, hal⟩ : ∃ al, Hid (allL d = al) := ⟨_, rfl⟩
      rw [hal.out]
      go_wp2_with fail
      refine wp_region_quiet_below (by kernel_rfl) (by kernel_rfl) ?_
      repeat (go_big_quiet_step ((first
        | (go_at_call 15; first | (with_reducible exact S1.out _) | (with_reducible exact S2.out _))
        | (go_at_call 16; exact C1.out _)
        | (go_at_call 17; exact C2.out _)
        | (go_at_call 12; exact C3.out _))))
      refine wpQuiet_nil ?_
      intro w4 hw'
      have hb4 := bw_below hw'
      clear hw'
      have HB4 : Hid (Below w.heap.size w w4) := HB3.out.trans (hb4.mono HB3.out.size)
      clear hb4
      go_wp2
      go_ret
      exact ⟨rfl, HB4.out⟩
    · have hsz : decide ((80 : Int) < (s.size : Int)) = true := decide_eq_true (by omega)
      go_enter Try.func3, Try.ntmps3
      go_wp2_with fail
      refine HR.out.mono ?_
      rintro e w1 ⟨rfl, hb1⟩
      have HB1 : Hid (Below w.heap.size w w1) := HBE.out.trans (hb1.mono HBE.out.size)
      clear hb1
      go_wp2_with fail
      refine (awake_any _).mono ?_
      rintro e w2 ⟨rfl, hb2⟩
      go_wp2
      go_ret
      exact ⟨rfl, HB1.out.trans (hb2.mono HB1.out.size)⟩
end Go.Proofs.Ytgbhpmbkhhbifaa
