/-
  The reference's check of a document, and Light: what a document that is light gives.
-/
import Derived.Test.YtdpllfgnppeneaaGreatDoorLight
namespace Go.Proofs.YtdpllfgnppeneaaGreatDoor
open Go.RowKit Ru Lay
attribute [local go_sem ↓] Go.wp_at_zero Go.wp_at_succ
set_option linter.unusedVariables false
set_option linter.unusedSimpArgs false

set_option maxHeartbeats 4000000 in
set_option maxRecDepth 100000 in
theorem check12_any (d : Dv) (T : List Ti) (l : List Nt) (w : World) (hT : TiersR w w.heap.size d.ta d.tn T) (hl : NotesR w w.heap.size d.na d.nn l) (hn : d.nn ≤ 14) (ht : d.tn ≤ 6) :
    Calls Tryz.prog 13 #[docV d] w (IntIf (fun r => r = 0 → DocOk T l) w) := by
  have HLN := Lib.hid hl.len
  have HTN := Lib.hid hT.len
  have HC11 := Lib.hid fun (W : World) (hW : Below w.heap.size w W) => check11_any d.ta d.tn d.tc T W (hT.on hW) (by omega)
  have HNE := Lib.hid fun (i : Nat) (hi : i < d.nn) (W : World) (hW : Below w.heap.size w W) => noteError_any d T l i W (hT.on hW) (hl.on hW) (by omega) (by omega) hi
  have HTE := Lib.hid fun (t : Nat) (hi : t < d.tn) (W : World) (hW : Below w.heap.size w W) => tierError_any d T l t W (hT.on hW) (hl.on hW) hn hi
  clear hT hl
  unfold docV at HNE HTE
  unfold docV
  obtain ⟨rid, name, len, day, sa, sn, sc, ta, tn, tc, na, nn, nc⟩ := d
  simp only at *
  go_enter Tryz.func13, Tryz.ntmps13
  go_upto_region 1 with fail
  obtain ⟨W0, hW0⟩ : ∃ W0, (w.alloc (.cells #[.int .i64 rid, .string name, .int .i64 len, .int .i64 day, .slice sa sn sc, .slice ta tn tc, .slice na nn nc] 28)) = W0 := ⟨_, rfl⟩
  have HB0 : Hid (Below w.heap.size w W0) := by rw [← hW0]; exact ((Below.refl _ _).alloc (by simp <;> omega) _)
  have hz0 : W0.heap.size = w.heap.size + 1 := by rw [← hW0]; simp
  have HC0 : Hid (∀ X, Below W0.heap.size W0 X → X.rangeAt (w.heap.size) 0 [.int .i64 rid, .string name, .int .i64 len, .int .i64 day, .slice sa sn sc, .slice ta tn tc, .slice na nn nc]) := fun X hX => by
    refine range_below hX (by omega) fun j v hv => ?_
    rw [← hW0, Nat.zero_add]; rw [World.cell?_alloc_at _ _ _ _ (by simp), ← hv, ← List.getElem?_toArray]; try rfl
  (try rw [hW0])
  clear hW0
  have g0 := HC0.out W0 (Below.refl _ _)
  have k5 : W0.cell? ⟨w.heap.size, 5, none⟩ = some (.slice ta tn tc) := g0 5 _ rfl
  clear g0
  go_wp2_with fail
  refine (HC11.out W0 HB0.out).mono ?_
  rintro e w1 ⟨r, rfl, hr, hb1⟩
  have HR := Lib.hid hr
  have HB01 : Hid (Below W0.heap.size W0 w1) := hb1
  have HB1 : Hid (Below w.heap.size w w1) := HB0.out.trans (hb1.mono HB0.out.size)
  clear hb1 hr k5
  by_cases r0 : r = 0
  · subst r0
    have HTI := Lib.hid (HR.out rfl)
    have g0 := HC0.out w1 HB01.out
    have k2 : w1.cell? ⟨w.heap.size, 2, none⟩ = some (.int .i64 len) := g0 2 _ rfl
    have k6 : w1.cell? ⟨w.heap.size, 6, none⟩ = some (.slice na nn nc) := g0 6 _ rfl
    clear g0
    by_cases l0 : len < 0
    · have l1 : decide (len < 0) = true := decide_eq_true l0
      go_wp2
      go_ret
      exact IntIf.of 12 (fun h => absurd h (by decide)) HB1.out
    · have l1 : decide (len < 0) = false := decide_eq_false l0
      by_cases l2 : 86400000 < len
      · have l3 : decide (len > 86400000) = true := decide_eq_true l2
        have l3' : decide (86400000 < len) = true := decide_eq_true l2
        go_wp2
        go_ret
        exact IntIf.of 12 (fun h => absurd h (by decide)) HB1.out
      · have l3 : decide (len > 86400000) = false := decide_eq_false l2
        have l3' : decide (86400000 < len) = false := decide_eq_false l2
        have n3 : ¬ (300 : Int) < (nn : Int) := by omega
        go_wp2_with fail
        clear k2 k6 l0 l1 l2 l3 l3'
        go_loopw [4] (fun v4 wr => ∃ i : Nat, i ≤ nn ∧ v4 = .int .i64 i ∧ Hid (∀ j, j < i → NOk T l j) ∧ Hid (Below W0.heap.size W0 wr)) (fun v4 _ => nn - (intOf v4).toNat)
        case atStart => exact ⟨0, Nat.zero_le _, rfl, fun j h => by omega, HB01⟩
        case round =>
          clear HB01 HB1
          obtain ⟨i, hi, rfl, HP, HB01⟩ := hrel
          obtain ⟨w2, hw2⟩ : ∃ w2, wr = w2 := ⟨_, rfl⟩
          rw [hw2] at HB01 ⊢
          clear hw2
          have HB2 : Hid (Below w.heap.size w w2) := HB0.out.trans (HB01.out.mono HB0.out.size)
          have g0 := HC0.out w2 HB01.out
          have k0 : w2.cell? ⟨w.heap.size, 0, none⟩ = some (.int .i64 rid) := g0 0 _ rfl
          have k1 : w2.cell? ⟨w.heap.size, 1, none⟩ = some (.string name) := g0 1 _ rfl
          have k2 : w2.cell? ⟨w.heap.size, 2, none⟩ = some (.int .i64 len) := g0 2 _ rfl
          have k3 : w2.cell? ⟨w.heap.size, 3, none⟩ = some (.int .i64 day) := g0 3 _ rfl
          have k4 : w2.cell? ⟨w.heap.size, 4, none⟩ = some (.slice sa sn sc) := g0 4 _ rfl
          have k5 : w2.cell? ⟨w.heap.size, 5, none⟩ = some (.slice ta tn tc) := g0 5 _ rfl
          have k6 : w2.cell? ⟨w.heap.size, 6, none⟩ = some (.slice na nn nc) := g0 6 _ rfl
          clear g0
          by_cases hlt : i < nn
          · have hiz : (i : Int) < (nn : Int) := by omega
            have HI := Lib.hid hlt
            have HE := Lib.hid (HNE.out i hlt w2 HB2.out)
            go_wp2_with fail
            refine HE.out.mono ?_
            rintro e w3 ⟨r, rfl, hr, hb3⟩
            have HR3 := Lib.hid hr
            have HB03 : Hid (Below W0.heap.size W0 w3) := HB01.out.trans (hb3.mono HB01.out.size)
            have HB3 : Hid (Below w.heap.size w w3) := HB2.out.trans (hb3.mono HB2.out.size)
            clear hb3 hr HE k0 k1 k2 k3 k4 k5 k6
            by_cases r0 : r = 0
            · subst r0
              have HP2 : Hid (∀ j, j < i + 1 → NOk T l j) := fun j hj => by
                by_cases e : j = i
                · subst e; exact HR3.out rfl
                · exact HP.out j (by omega)
              go_wp2
              go_roundw
              case rel => exact ⟨i + 1, HI.out, by go_num, HP2, HB03⟩
              case measure => have := HI.out; simp [intOf]; omega
            · have rb : (r != 0) = true := bne_iff_ne.2 r0
              have HR0 := Lib.hid r0
              clear r0
              go_wp2
              go_ret
              exact IntIf.of r (fun h => absurd h HR0.out) HB3.out
          · obtain rfl : nn = i := by omega
            have hiz : ¬ (nn : Int) < (nn : Int) := by omega
            have HNT : Hid (∀ i, i < l.length → NOk T l i) := fun i hi => HP.out i (by rw [← HLN.out]; exact hi)
            go_wp2_with fail
            clear k0 k1 k2 k3 k4 k5 k6 HP HNE hiz
            go_loopw [6] (fun v6 wr => ∃ i : Nat, i ≤ tn ∧ v6 = .int .i64 i ∧ Hid (∀ j : Nat, j < i → TierOk T l (j : Int)) ∧ Hid (Below W0.heap.size W0 wr)) (fun v6 _ => tn - (intOf v6).toNat)
            case atStart => exact ⟨0, Nat.zero_le _, rfl, fun j h => by omega, HB01⟩
            case round =>
              clear HB01 HB2
              obtain ⟨i, hi, rfl, HP, HB01⟩ := hrel
              obtain ⟨w2, hw2⟩ : ∃ w2, wr = w2 := ⟨_, rfl⟩
              rw [hw2] at HB01 ⊢
              clear hw2
              have HB2 : Hid (Below w.heap.size w w2) := HB0.out.trans (HB01.out.mono HB0.out.size)
              have g0 := HC0.out w2 HB01.out
              have k0 : w2.cell? ⟨w.heap.size, 0, none⟩ = some (.int .i64 rid) := g0 0 _ rfl
              have k1 : w2.cell? ⟨w.heap.size, 1, none⟩ = some (.string name) := g0 1 _ rfl
              have k2 : w2.cell? ⟨w.heap.size, 2, none⟩ = some (.int .i64 len) := g0 2 _ rfl
              have k3 : w2.cell? ⟨w.heap.size, 3, none⟩ = some (.int .i64 day) := g0 3 _ rfl
              have k4 : w2.cell? ⟨w.heap.size, 4, none⟩ = some (.slice sa sn sc) := g0 4 _ rfl
              have k5 : w2.cell? ⟨w.heap.size, 5, none⟩ = some (.slice ta tn tc) := g0 5 _ rfl
              have k6 : w2.cell? ⟨w.heap.size, 6, none⟩ = some (.slice na nn nc) := g0 6 _ rfl
              clear g0
              by_cases hlt : i < tn
              · have hiz : (i : Int) < (tn : Int) := by omega
                have HI := Lib.hid hlt
                have HE := Lib.hid (HTE.out i hlt w2 HB2.out)
                go_wp2_with fail
                refine HE.out.mono ?_
                rintro e w3 ⟨r, rfl, hr, hb3⟩
                have HR3 := Lib.hid hr
                have HB03 : Hid (Below W0.heap.size W0 w3) := HB01.out.trans (hb3.mono HB01.out.size)
                have HB3 : Hid (Below w.heap.size w w3) := HB2.out.trans (hb3.mono HB2.out.size)
                clear hb3 hr HE k0 k1 k2 k3 k4 k5 k6
                by_cases r0 : r = 0
                · subst r0
                  have HP2 : Hid (∀ j : Nat, j < i + 1 → TierOk T l (j : Int)) := fun j hj => by
                    by_cases e : j = i
                    · subst e; exact HR3.out rfl
                    · exact HP.out j (by omega)
                  go_wp2
                  go_roundw
                  case rel => exact ⟨i + 1, HI.out, by go_num, HP2, HB03⟩
                  case measure => have := HI.out; simp [intOf]; omega
                · have rb : (r != 0) = true := bne_iff_ne.2 r0
                  have HR0 := Lib.hid r0
                  clear r0
                  go_wp2
                  go_ret
                  exact IntIf.of r (fun h => absurd h HR0.out) HB3.out
              · obtain rfl : tn = i := by omega
                have hiz : ¬ (tn : Int) < (tn : Int) := by omega
                have HF : Hid (DocOk T l) := ⟨HTI.out, HNT.out, fun t ht => HP.out t (by rw [← HTN.out]; exact ht)⟩
                go_wp2
                go_ret
                exact IntIf.of 0 (fun _ => HF.out) HB2.out
  · have rb : (r != 0) = true := bne_iff_ne.2 r0
    have HR0 := Lib.hid r0
    clear r0
    go_wp2
    go_ret
    exact IntIf.of r (fun h => absurd h HR0.out) HB1.out
/-- What Light tells. -/
def LightIf (nn tn : Nat) (T : List Ti) (l : List Nt) (b : Bool) : Prop := b = true → (nn ≤ 14 ∧ tn ≤ 6) ∧ LightN T l
theorem lightIf_no {nn tn : Nat} {T : List Ti} {l : List Nt} : LightIf nn tn T l false := fun h => by cases h
theorem lightIf_yes {nn tn : Nat} {T : List Ti} {l : List Nt} (h : (nn ≤ 14 ∧ tn ≤ 6) ∧ LightN T l) : LightIf nn tn T l true := fun _ => h
set_option maxHeartbeats 2000000 in
set_option maxRecDepth 100000 in
theorem light_any (d : Dv) (T : List Ti) (l : List Nt) (w : World) (hT : TiersR w w.heap.size d.ta d.tn T) (hl : NotesR w w.heap.size d.na d.nn l) :
    Calls Tryz.prog 5 #[docV d] w (BoolIf (LightIf d.nn d.tn T l) w) := by
  have HCH := Lib.hid fun (h1 : d.nn ≤ 14) (h2 : d.tn ≤ 6) (W : World) (hW : Below w.heap.size w W) => check12_any d T l W (hT.on hW) (hl.on hW) h1 h2
  clear hT hl
  unfold docV at HCH
  unfold docV
  obtain ⟨rid, name, len, day, sa, sn, sc, ta, tn, tc, na, nn, nc⟩ := d
  simp only at *
  go_enter Tryz.func5, Tryz.ntmps5
  go_upto_region 1 with fail
  obtain ⟨W0, hW0⟩ : ∃ W0, (w.alloc (.cells #[.int .i64 rid, .string name, .int .i64 len, .int .i64 day, .slice sa sn sc, .slice ta tn tc, .slice na nn nc] 28)) = W0 := ⟨_, rfl⟩
  have HB0 : Hid (Below w.heap.size w W0) := by rw [← hW0]; exact ((Below.refl _ _).alloc (by simp <;> omega) _)
  have hz0 : W0.heap.size = w.heap.size + 1 := by rw [← hW0]; simp
  have HC0 : Hid (∀ X, Below W0.heap.size W0 X → X.rangeAt (w.heap.size) 0 [.int .i64 rid, .string name, .int .i64 len, .int .i64 day, .slice sa sn sc, .slice ta tn tc, .slice na nn nc]) := fun X hX => by
    refine range_below hX (by omega) fun j v hv => ?_
    rw [← hW0, Nat.zero_add]; rw [World.cell?_alloc_at _ _ _ _ (by simp), ← hv, ← List.getElem?_toArray]; try rfl
  (try rw [hW0])
  clear hW0
  have g0 := HC0.out W0 (Below.refl _ _)
  have k0 : W0.cell? ⟨w.heap.size, 0, none⟩ = some (.int .i64 rid) := g0 0 _ rfl
  have k1 : W0.cell? ⟨w.heap.size, 1, none⟩ = some (.string name) := g0 1 _ rfl
  have k2 : W0.cell? ⟨w.heap.size, 2, none⟩ = some (.int .i64 len) := g0 2 _ rfl
  have k3 : W0.cell? ⟨w.heap.size, 3, none⟩ = some (.int .i64 day) := g0 3 _ rfl
  have k4 : W0.cell? ⟨w.heap.size, 4, none⟩ = some (.slice sa sn sc) := g0 4 _ rfl
  have k5 : W0.cell? ⟨w.heap.size, 5, none⟩ = some (.slice ta tn tc) := g0 5 _ rfl
  have k6 : W0.cell? ⟨w.heap.size, 6, none⟩ = some (.slice na nn nc) := g0 6 _ rfl
  clear g0
  by_cases n1 : nn ≤ 14
  · have n1z : (nn : Int) ≤ (14 : Int) := by omega
    by_cases n2 : tn ≤ 6
    · have n2z : (tn : Int) ≤ (6 : Int) := by omega
      by_cases n3 : sn ≤ 6
      · have n3z : (sn : Int) ≤ (6 : Int) := by omega
        have HE := Lib.hid (HCH.out n1 n2 W0 HB0.out)
        go_wp2_with fail
        refine HE.out.mono ?_
        rintro e w1 ⟨r, rfl, hr, hb1⟩
        have HR := Lib.hid hr
        have HB1 : Hid (Below w.heap.size w w1) := HB0.out.trans (hb1.mono HB0.out.size)
        have HN12 : Hid (nn ≤ 14 ∧ tn ≤ 6) := ⟨n1, n2⟩
        clear hb1 hr HE k0 k1 k2 k3 k4 k5 k6
        by_cases r0 : r = 0
        · have rb : (r == 0) = true := beq_iff_eq.2 r0
          have HF := Lib.hid (HR.out r0).light
          clear r0
          go_wp2
          go_ret
          exact BoolIf.of true (lightIf_yes ⟨HN12.out, HF.out⟩) HB1.out
        · have rb : (r == 0) = false := beq_eq_false_iff_ne.2 r0
          clear r0
          go_wp2
          go_ret
          exact BoolIf.of false lightIf_no HB1.out
      · have n3z : ¬ (sn : Int) ≤ (6 : Int) := by omega
        go_wp2
        go_ret
        exact BoolIf.of false lightIf_no HB0.out
    · have n2z : ¬ (tn : Int) ≤ (6 : Int) := by omega
      go_wp2
      go_ret
      exact BoolIf.of false lightIf_no HB0.out
  · have n1z : ¬ (nn : Int) ≤ (14 : Int) := by omega
    go_wp2
    go_ret
    exact BoolIf.of false lightIf_no HB0.out
end Go.Proofs.YtdpllfgnppeneaaGreatDoor
