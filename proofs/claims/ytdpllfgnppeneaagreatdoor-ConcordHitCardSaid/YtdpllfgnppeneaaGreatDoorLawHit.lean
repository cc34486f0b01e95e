/-
  ConcordHit: the law, walked.
-/
import Derived.Test.YtdpllfgnppeneaaGreatDoorAwake39
import Derived.Test.YtdpllfgnppeneaaGreatDoorCheck12
import Derived.Test.YtdpllfgnppeneaaGreatDoorRefHit
import Derived.Test.YtdpllfgnppeneaaGreatDoorG06
namespace Go.Proofs.YtdpllfgnppeneaaGreatDoor
open Go.RowKit Ru Lay Srt Col
attribute [local go_sem ↓] Go.wp_at_zero Go.wp_at_succ
set_option linter.unusedVariables false
set_option linter.unusedSimpArgs false

set_option maxHeartbeats 4000000 in
set_option maxRecDepth 100000 in
theorem concordHit_any (d : Dv) (T : List Ti) (l : List Nt) (id n : Int) (w : World) (hT : TiersR w w.heap.size d.ta d.tn T) (hl : NotesR w w.heap.size d.na d.nn l) (hnn : d.nn ≤ 9223372036854775807) (hn : n ≤ 9223372036854775807) (hn0 : -9223372036854775808 ≤ n) (htb : Tabs w) :
    Calls Tryz.prog 3 #[docV d, .int .i64 id, .int .i64 n] w fun e w' => e = .returned (.bool true) ∧ Below w.heap.size w w' := by
  have HAW := Lib.hid fun (W : World) (hW : Below w.heap.size w W) => awake39_any W (htb.on hW)
  have HLT := Lib.hid fun (W : World) (hW : Below w.heap.size w W) => light_any d T l W (hT.on hW) (hl.on hW)
  have H1 := Lib.hid fun (hL : LightN T l) (h14 : d.nn ≤ 14) (h6 : d.tn ≤ 6) (W : World) (hW : Below w.heap.size w W) => hit_any d l id n W (hl.on hW) (by omega) (by omega) (by rw [← hT.len]; exact hL.tier)
  have H2 := Lib.hid fun (hL : LightN T l) (h14 : d.nn ≤ 14) (W : World) (hW : Below w.heap.size w W) => refHit_any d T l id n W hL (hT.on hW) (hl.on hW) h14 hn hn0
  clear hT hl htb
  unfold docV at HLT H1 H2
  unfold docV
  obtain ⟨rid, name, len, day, sa, sn, sc, ta, tn, tc, na, nn, nc⟩ := d
  simp only at *
  go_enter Tryz.func3, Tryz.ntmps3
  go_upto_region 1 with fail
  obtain ⟨W0, hW0⟩ : ∃ W0, (w.alloc (.cells #[.int .i64 rid, .string name, .int .i64 len, .int .i64 day, .slice sa sn sc, .slice ta tn tc, .slice na nn nc] 28)) = W0 := ⟨_, rfl⟩
  have HB0 : Hid (Below w.heap.size w W0) := by rw [← hW0]; exact ((Below.refl _ _).alloc (by simp <;> omega) _)
  have hz0 : W0.heap.size = w.heap.size + 1 := by rw [← hW0]; simp
  have HC0 : Hid (∀ X, Below W0.heap.size W0 X → X.rangeAt (w.heap.size) 0 [.int .i64 rid, .string name, .int .i64 len, .int .i64 day, .slice sa sn sc, .slice ta tn tc, .slice na nn nc]) := fun X hX => by
    refine range_below hX (by omega) fun j v hv => ?_
    rw [← hW0, Nat.zero_add]; rw [World.cell?_alloc_at _ _ _ _ (by simp), ← hv, ← List.getElem?_toArray]; try rfl
  (try rw [hW0])
  clear hW0
  have g0 := HC0.out W0 (Below.refl _ _)
  have k0 : W0.cell? ⟨w.heap.size, 0, none⟩ = some (.int .i64 rid) := g0 0 _ rfl
  have k1 : W0.cell? ⟨w.heap.size, 1, none⟩ = some (.string name) := g0 1 _ rfl
  have k2 : W0.cell? ⟨w.heap.size, 2, none⟩ = some (.int .i64 len) := g0 2 _ rfl
  have k3 : W0.cell? ⟨w.heap.size, 3, none⟩ = some (.int .i64 day) := g0 3 _ rfl
  have k4 : W0.cell? ⟨w.heap.size, 4, none⟩ = some (.slice sa sn sc) := g0 4 _ rfl
  have k5 : W0.cell? ⟨w.heap.size, 5, none⟩ = some (.slice ta tn tc) := g0 5 _ rfl
  have k6 : W0.cell? ⟨w.heap.size, 6, none⟩ = some (.slice na nn nc) := g0 6 _ rfl
  clear g0
  go_wp2_with fail
  refine (HLT.out W0 HB0.out).mono ?_
  rintro e w3 ⟨b, rfl, hlf, hb3⟩
  have HLF := Lib.hid hlf
  have HB03 : Hid (Below W0.heap.size W0 w3) := hb3
  have HB3 : Hid (Below w.heap.size w w3) := HB0.out.trans (hb3.mono HB0.out.size)
  clear hb3 hlf k0 k1 k2 k3 k4 k5 k6 HLT
  cases b with
  | false =>
    go_wp2_with fail
    refine (HAW.out _ HB3.out).mono ?_
    rintro e w5 ⟨rfl, hb5⟩
    have HB5 : Hid (Below w.heap.size w w5) := HB3.out.trans (hb5.mono HB3.out.size)
    clear hb5
    go_wp2
    go_ret
    exact ⟨rfl, HB5.out⟩
  | true =>
    obtain ⟨⟨h14, h6⟩, hL⟩ := HLF.out rfl
    have HP := Lib.hid (H1.out hL h14 h6)
    have HR := Lib.hid (H2.out hL h14)
    clear hL HLF H1 H2
    obtain ⟨ob, hob⟩ : ∃ ob, (getN l id).isSome = ob := ⟨_, rfl⟩
    rw [hob] at HP HR
    clear hob
    have hbb : (ob == ob) = true := by cases ob <;> rfl
    have g0 := HC0.out w3 HB03.out
    have k0 : w3.cell? ⟨w.heap.size, 0, none⟩ = some (.int .i64 rid) := g0 0 _ rfl
    have k1 : w3.cell? ⟨w.heap.size, 1, none⟩ = some (.string name) := g0 1 _ rfl
    have k2 : w3.cell? ⟨w.heap.size, 2, none⟩ = some (.int .i64 len) := g0 2 _ rfl
    have k3 : w3.cell? ⟨w.heap.size, 3, none⟩ = some (.int .i64 day) := g0 3 _ rfl
    have k4 : w3.cell? ⟨w.heap.size, 4, none⟩ = some (.slice sa sn sc) := g0 4 _ rfl
    have k5 : w3.cell? ⟨w.heap.size, 5, none⟩ = some (.slice ta tn tc) := g0 5 _ rfl
    have k6 : w3.cell? ⟨w.heap.size, 6, none⟩ = some (.slice na nn nc) := g0 6 _ rfl
    clear g0
    go_wp2_with fail
    refine (HP.out w3 HB3.out).mono ?_
    rintro e w4 ⟨h1, rfl, e1, r1, _, hb4⟩
    have HE1 := Lib.hid e1
    have HR1 := Lib.hid r1
    have HB4 : Hid (Below w.heap.size w w4) := HB3.out.trans (hb4.mono HB3.out.size)
    have HB04 : Hid (Below W0.heap.size W0 w4) := HB03.out.trans (hb4.mono HB03.out.size)
    clear e1 r1 hb4 k0 k1 k2 k3 k4 k5 k6
    unfold encH
    simp only []
    go_upto_region 4 with fail
    obtain ⟨W5, hW5⟩ : ∃ W5, (w4.alloc (.cells #[.int .i64 h1.rid, .int .i64 h1.nid, .slice h1.la h1.ln h1.lc, .string h1.key, .slice h1.ra h1.rn h1.rc] 35)) = W5 := ⟨_, rfl⟩
    have HB5 : Hid (Below w4.heap.size w4 W5) := by rw [← hW5]; exact ((Below.refl _ _).alloc (by simp <;> omega) _)
    have hz5 : W5.heap.size = w4.heap.size + 1 := by rw [← hW5]; simp
    have HC5 : Hid (∀ X, Below W5.heap.size W5 X → X.rangeAt (w4.heap.size) 0 [.int .i64 h1.rid, .int .i64 h1.nid, .slice h1.la h1.ln h1.lc, .string h1.key, .slice h1.ra h1.rn h1.rc]) := fun X hX => by
      refine range_below hX (by omega) fun j v hv => ?_
      rw [← hW5, Nat.zero_add]; rw [World.cell?_alloc_at _ _ _ _ (by simp), ← hv, ← List.getElem?_toArray]; try rfl
    (try rw [hW5])
    clear hW5
    have HBW5 : Hid (Below w.heap.size w W5) := HB4.out.trans (HB5.out.mono HB4.out.size)
    have HB05 : Hid (Below W0.heap.size W0 W5) := HB04.out.trans (HB5.out.mono HB04.out.size)
    have g0 := HC0.out W5 HB05.out
    have k0 : W5.cell? ⟨w.heap.size, 0, none⟩ = some (.int .i64 rid) := g0 0 _ rfl
    have k1 : W5.cell? ⟨w.heap.size, 1, none⟩ = some (.string name) := g0 1 _ rfl
    have k2 : W5.cell? ⟨w.heap.size, 2, none⟩ = some (.int .i64 len) := g0 2 _ rfl
    have k3 : W5.cell? ⟨w.heap.size, 3, none⟩ = some (.int .i64 day) := g0 3 _ rfl
    have k4 : W5.cell? ⟨w.heap.size, 4, none⟩ = some (.slice sa sn sc) := g0 4 _ rfl
    have k5 : W5.cell? ⟨w.heap.size, 5, none⟩ = some (.slice ta tn tc) := g0 5 _ rfl
    have k6 : W5.cell? ⟨w.heap.size, 6, none⟩ = some (.slice na nn nc) := g0 6 _ rfl
    clear g0
    go_wp2_with fail
    refine (HR.out W5 HBW5.out).mono ?_
    rintro e w6 ⟨h2, rfl, e2, r2, _, hb6⟩
    have HEE : Hid (h1.toHt = h2.toHt) := HE1.out.trans e2.symm
    have HR2 := Lib.hid r2
    have HB6 : Hid (Below w.heap.size w w6) := HBW5.out.trans (hb6.mono HBW5.out.size)
    have HB56 : Hid (Below W5.heap.size W5 w6) := hb6
    clear e2 r2 hb6 k0 k1 k2 k3 k4 k5 k6 hz5
    unfold encH
    simp only []
    go_upto_region 5 with fail
    obtain ⟨W7, hW7⟩ : ∃ W7, (w6.alloc (.cells #[.int .i64 h2.rid, .int .i64 h2.nid, .slice h2.la h2.ln h2.lc, .string h2.key, .slice h2.ra h2.rn h2.rc] 35)) = W7 := ⟨_, rfl⟩
    have HB7 : Hid (Below w6.heap.size w6 W7) := by rw [← hW7]; exact ((Below.refl _ _).alloc (by simp <;> omega) _)
    have hz7 : W7.heap.size = w6.heap.size + 1 := by rw [← hW7]; simp
    have HC7 : Hid (∀ X, Below W7.heap.size W7 X → X.rangeAt (w6.heap.size) 0 [.int .i64 h2.rid, .int .i64 h2.nid, .slice h2.la h2.ln h2.lc, .string h2.key, .slice h2.ra h2.rn h2.rc]) := fun X hX => by
      refine range_below hX (by omega) fun j v hv => ?_
      rw [← hW7, Nat.zero_add]; rw [World.cell?_alloc_at _ _ _ _ (by simp), ← hv, ← List.getElem?_toArray]; try rfl
    (try rw [hW7])
    clear hW7
    have HBW7 : Hid (Below w.heap.size w W7) := HB6.out.trans (HB7.out.mono HB6.out.size)
    have HB57 : Hid (Below W5.heap.size W5 W7) := HB56.out.trans (HB7.out.mono HB56.out.size)
    have hr1 : HvR W7 W7.heap.size h1 := (HR1.out.on HB5.out).on HB57.out
    have hr2 : HvR W7 W7.heap.size h2 := HR2.out.on HB7.out
    have HEQ : Hid (Calls Tryz.prog 9 #[.agg #[.int .i64 h1.rid, .int .i64 h1.nid, .slice h1.la h1.ln h1.lc, .string h1.key, .slice h1.ra h1.rn h1.rc], .agg #[.int .i64 h2.rid, .int .i64 h2.nid, .slice h2.la h2.ln h2.lc, .string h2.key, .slice h2.ra h2.rn h2.rc]] W7 fun e w' => e = .returned (.bool true) ∧ Below W7.heap.size W7 w') :=
      equalH_any h1 h2 W7 HEE.out hr1 hr2 (Nat.le_trans hr1.lc.1 hr1.lc.2) (Nat.le_trans hr1.rc.1 hr1.rc.2) (Nat.le_trans hr2.lc.1 hr2.lc.2) (Nat.le_trans hr2.rc.1 hr2.rc.2)
    have g5 := HC5.out W7 HB57.out
    have g7 := HC7.out W7 (Below.refl _ _)
    have m0 : W7.cell? ⟨w4.heap.size, 0, none⟩ = some (.int .i64 h1.rid) := g5 0 _ rfl
    have m1 : W7.cell? ⟨w4.heap.size, 1, none⟩ = some (.int .i64 h1.nid) := g5 1 _ rfl
    have m2 : W7.cell? ⟨w4.heap.size, 2, none⟩ = some (.slice h1.la h1.ln h1.lc) := g5 2 _ rfl
    have m3 : W7.cell? ⟨w4.heap.size, 3, none⟩ = some (.string h1.key) := g5 3 _ rfl
    have m4 : W7.cell? ⟨w4.heap.size, 4, none⟩ = some (.slice h1.ra h1.rn h1.rc) := g5 4 _ rfl
    have n0 : W7.cell? ⟨w6.heap.size, 0, none⟩ = some (.int .i64 h2.rid) := g7 0 _ rfl
    have n1 : W7.cell? ⟨w6.heap.size, 1, none⟩ = some (.int .i64 h2.nid) := g7 1 _ rfl
    have n2 : W7.cell? ⟨w6.heap.size, 2, none⟩ = some (.slice h2.la h2.ln h2.lc) := g7 2 _ rfl
    have n3 : W7.cell? ⟨w6.heap.size, 3, none⟩ = some (.string h2.key) := g7 3 _ rfl
    have n4 : W7.cell? ⟨w6.heap.size, 4, none⟩ = some (.slice h2.ra h2.rn h2.rc) := g7 4 _ rfl
    clear g5 g7 hr1 hr2 hz7
    go_wp2_with fail
    refine HEQ.out.mono ?_
    rintro e w8 ⟨rfl, hb8⟩
    have HB8 : Hid (Below w.heap.size w w8) := HBW7.out.trans (hb8.mono HBW7.out.size)
    clear hb8 m0 m1 m2 m3 m4 n0 n1 n2 n3 n4
    go_wp2_with fail
    refine (HAW.out _ HB8.out).mono ?_
    rintro e w9 ⟨rfl, hb9⟩
    have HB9 : Hid (Below w.heap.size w w9) := HB8.out.trans (hb9.mono HB8.out.size)
    clear hb9
    go_wp2
    go_ret
    exact ⟨rfl, HB9.out⟩
end Go.Proofs.YtdpllfgnppeneaaGreatDoor
