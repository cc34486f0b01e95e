/-
  LayoutWraps, walked.
-/
import Derived.Test.YtacfeabdeaikhaaDoorGLawA
import Derived.Test.YtacfeabdeaikhaaDoorRefWrap
namespace Go.Proofs.YtacfeabdeaikhaaDoor
open Go.RowKit Ru Lay
set_option linter.unusedVariables false
set_option linter.unusedSimpArgs false

theorem wrapL_le (L : List (List ByteArray)) (W : Int) : (wrapL L W).length ≤ nmax L * (L.length + 1) := by
  have h1 := wrapG_le (f := fun g => alignL (partP L g)) (G := groups (cols L) W) (m := L.length) (fun g => by rw [alignL_len, partP_len]) (groups (cols L) W).length
  have h2 := groups_len (cols L) W
  rw [cols_len] at h2
  exact Nat.le_trans h1 (Nat.mul_le_mul h2 (Nat.le_refl _))
theorem wrapL_small {L : List (List ByteArray)} (W : Int) (h : Few L) : (wrapL L W).length ≤ 252 := by
  have h1 := wrapL_le L W
  have h2 : nmax L ≤ 12 := nmax_le fun r hr => (h.2 r hr).1
  have h3 := h.1
  have h4 : nmax L * (L.length + 1) ≤ 12 * 21 := Nat.mul_le_mul h2 (by omega)
  omega
set_option maxHeartbeats 4000000 in
set_option maxRecDepth 100000 in
theorem wraps_law (A : Option Addr) (n c : Nat) (L : List (List ByteArray)) (W : Int) (w : World) (hL : RowsR w w.heap.size A n L) (hn : n ≤ 9223372036854775807) (hW : W ≤ 9223372036854775807) (hT : Tabs w) :
    Calls Tryd.prog 7 #[.slice A n c, .int .i64 W] w fun e w' => e = .returned (.bool true) ∧ Below w.heap.size w w' := by
  have HT := Lib.hid hT
  clear hT
  have HL := Lib.hid hL
  clear hL
  by_cases hf : Few L
  · have HF := Lib.hid (few_yes (c := c) HL.out hn hf)
    have HZ := Lib.hid hf.sz
    have HN := Lib.hid hf.1
    have HWS := Lib.hid (wrapL_small W hf)
    clear hf
    have HB0 : Hid (Below w.heap.size w w) := Below.refl _ _
    go_enter Tryd.func7, Tryd.ntmps7
    go_wp2_with fail
    refine HF.out.mono ?_
    rintro e w1 ⟨rfl, rfl⟩
    go_wp2_with fail
    refine (wrap_any A n c L W w HL.out HZ.out hW HT.out).mono ?_
    rintro e w1 ⟨v, rfl, hown, hb⟩
    obtain ⟨A1, c1, rfl, _, _, hs⟩ := hown.form
    have HS1 := Lib.hid hs
    have HB1 : Hid (Below w.heap.size w w1) := HB0.out.trans (hb.mono HB0.out.size)
    clear hown hs hb
    go_wp2_with fail
    refine (refWrap_any A n c L W w1 (HL.out.on HB1.out) HZ.out hW).mono ?_
    rintro e w2 ⟨v, rfl, hown, hb⟩
    obtain ⟨A2, c2, rfl, _, _, hs⟩ := hown.form
    have HS2 := Lib.hid hs
    have HB2 : Hid (Below w.heap.size w w2) := HB1.out.trans (hb.mono HB1.out.size)
    have HS1' := Lib.hid (SR.on HS1.out hb)
    clear HS1
    have HS1 := HS1'
    clear HS1'
    clear hown hs hb
    have HSM := Lib.hid (equal_strs A1 A2 (wrapL L W).length (wrapL L W).length c1 c2 _ _ w2 HS1.out HS2.out (by have := HWS.out; omega) (by have := HWS.out; omega))
    rw [decide_eq_true rfl] at HSM
    go_wp2_with fail
    refine HSM.out.mono ?_
    rintro e w3 ⟨rfl, k, rfl⟩
    have HB3 : Hid (Below w.heap.size w (w2.drewN k)) := below_drewN HB2.out _
    go_wp2_with fail
    refine (awake_any _ (HT.out.on HB3.out)).mono ?_
    rintro e wz ⟨rfl, hbz⟩
    go_wp2
    go_ret
    exact ⟨rfl, HB3.out.trans (hbz.mono HB3.out.size)⟩
  · have HF := Lib.hid (few_no (c := c) HL.out hn hf)
    clear hf
    go_enter Tryd.func7, Tryd.ntmps7
    go_wp2_with fail
    refine HF.out.mono ?_
    rintro e w1 ⟨rfl, rfl⟩
    go_wp2_with fail
    refine (awake_any _ HT.out).mono ?_
    rintro e wz ⟨rfl, hbz⟩
    go_wp2
    go_ret
    exact ⟨rfl, hbz⟩
end Go.Proofs.YtacfeabdeaikhaaDoor
