/-
  ConcordLines: the law, walked.
-/
import Derived.Test.YtdpllfgnppeneaaDoorAwake39
import Derived.Test.YtdpllfgnppeneaaDoorFew39
namespace Go.Proofs.YtdpllfgnppeneaaDoor
open Go.RowKit Ru Lay
attribute [local go_sem ↓] Go.wp_at_zero Go.wp_at_succ
set_option linter.unusedVariables false
set_option linter.unusedSimpArgs false

theorem few_yes {A : Option Addr} {n c : Nat} {l : List Hv} {w : World} (hl : HitsR w w.heap.size A n l) (hn : n ≤ 9223372036854775807) (h : FewL (l.map Hv.toHt)) :
    Calls Tryd.prog 10 #[.slice A n c] w fun e w' => e = .returned (.bool true) ∧ w' = w := (few_any A n c l w hl hn).mono fun e w' ⟨b, he, hb, hw⟩ => ⟨by rw [he, hb.2 h], hw.symm⟩
theorem few_no {A : Option Addr} {n c : Nat} {l : List Hv} {w : World} (hl : HitsR w w.heap.size A n l) (hn : n ≤ 9223372036854775807) (h : ¬ FewL (l.map Hv.toHt)) :
    Calls Tryd.prog 10 #[.slice A n c] w fun e w' => e = .returned (.bool false) ∧ w' = w := (few_any A n c l w hl hn).mono fun e w' ⟨b, he, hb, hw⟩ => ⟨by
    cases b with
    | false => exact he
    | true => exact absurd (hb.1 rfl) h, hw.symm⟩
set_option maxHeartbeats 1000000 in
set_option maxRecDepth 100000 in
theorem concordLines_any (A : Option Addr) (n c : Nat) (l : List Hv) (w : World) (hl : HitsR w w.heap.size A n l) (hn : n ≤ 9223372036854775807) (hT : Tabs w) :
    Calls Tryd.prog 5 #[.slice A n c] w fun e w' => e = .returned (.bool true) ∧ Below w.heap.size w w' := by
  have HA := Lib.hid fun (W : World) (hW : Below w.heap.size w W) => awake39_any W (hT.on hW)
  have HB0 : Hid (Below w.heap.size w w) := Below.refl _ _
  by_cases hf : FewL (l.map Hv.toHt)
  · have HF := Lib.hid (few_yes (c := c) hl hn hf)
    have hn1 : n ≤ 1000 := by have h1 := hf.1; rw [List.length_map, hl.len] at h1; omega
    have hz : ∀ x ∈ l, HvZ x.toHt := fun x hx => (hf.2 _ (List.mem_map_of_mem hx)).sz
    have HL := Lib.hid (lines_any A n c l w hl hz hn1 hT)
    have HR := Lib.hid fun (W : World) (hW : Below w.heap.size w W) => refLines_any A n c l W (hl.on hW) hz hn1 (hT.on hW)
    have HLEN := Lib.hid hl.len
    clear hl hT hf hz
    go_enter Tryd.func5, Tryd.ntmps5
    go_wp2_with fail
    refine HF.out.mono ?_
    rintro e w1 ⟨rfl, rfl⟩
    go_wp2_with fail
    refine HL.out.mono ?_
    rintro e w2 ⟨v, rfl, h1, hb2⟩
    obtain ⟨A1, c1, rfl, _, _, hs1⟩ := OwnS.form h1
    have HS1 := Lib.hid hs1
    have HB2 := Lib.hid hb2
    clear h1 hb2 hs1 HL
    go_wp2_with fail
    refine (HR.out w2 HB2.out).mono ?_
    rintro e w3 ⟨v3, rfl, h3, hb3⟩
    obtain ⟨A3, c3, rfl, _, _, hs3⟩ := OwnS.form h3
    have HS3 := Lib.hid hs3
    have HB3 : Hid (Below w1.heap.size w1 w3) := HB2.out.trans (hb3.mono HB2.out.size)
    have HS13 := Lib.hid (HS1.out.on hb3)
    have hll : (linesL (l.map Hv.toHt)).length ≤ 1000000 := by unfold linesL; rw [List.length_map, List.length_map, HLEN.out]; omega
    clear h3 hb3 hs3 HS1
    go_wp2_with fail
    refine (mono_eq (equal_strs A1 A3 _ _ c1 c3 _ _ w3 HS13.out HS3.out (by omega) (by omega)) (v' := .bool true) (by rw [decide_eq_true rfl])).mono ?_
    rintro e w4 ⟨rfl, z, rfl⟩
    have HB4 : Hid (Below w1.heap.size w1 (w3.drewN z)) := below_drewN HB3.out z
    go_wp2_with fail
    refine (HA.out _ HB4.out).mono ?_
    rintro e w5 ⟨rfl, hb5⟩
    have HB5 : Hid (Below w1.heap.size w1 w5) := HB4.out.trans (hb5.mono HB4.out.size)
    clear hb5
    go_wp2
    go_ret
    exact ⟨rfl, HB5.out⟩
  · have HF := Lib.hid (few_no (c := c) hl hn hf)
    clear hl hT hf
    go_enter Tryd.func5, Tryd.ntmps5
    go_wp2_with fail
    refine HF.out.mono ?_
    rintro e w1 ⟨rfl, rfl⟩
    go_wp2_with fail
    refine (HA.out _ HB0.out).mono ?_
    rintro e w5 ⟨rfl, hb5⟩
    have HB5 := Lib.hid hb5
    clear hb5
    go_wp2
    go_ret
    exact ⟨rfl, HB5.out⟩
end Go.Proofs.YtdpllfgnppeneaaDoor
