/-
  ConcordAll: the law, walked.
-/
import Derived.Test.YtdpllfgnppeneaaGreatDoorAwake39
import Derived.Test.YtdpllfgnppeneaaGreatDoorCheck12
import Derived.Test.YtdpllfgnppeneaaGreatDoorRefAll
import Derived.Test.YtdpllfgnppeneaaGreatDoorSameH
namespace Go.Proofs.YtdpllfgnppeneaaGreatDoor
open Go.RowKit Ru Lay Srt Col
attribute [local go_sem ↓] Go.wp_at_zero Go.wp_at_succ
set_option linter.unusedVariables false
set_option linter.unusedSimpArgs false

set_option maxHeartbeats 4000000 in
set_option maxRecDepth 100000 in
theorem concordAll_any (d : Dv) (T : List Ti) (l : List Nt) (A : Option Addr) (m c : Nat) (ids : List Int) (n : Int) (w : World) (hT : TiersR w w.heap.size d.ta d.tn T) (hl : NotesR w w.heap.size d.na d.nn l) (hnn : d.nn ≤ 9223372036854775807) (hi : IR w w.heap.size A m ids) (hm : m ≤ 9223372036854775807) (hn : n ≤ 9223372036854775807) (hn0 : -9223372036854775808 ≤ n) (htb : Tabs w) :
    Calls Tryz.prog 4 #[docV d, .slice A m c, .int .i64 n] w fun e w' => e = .returned (.bool true) ∧ Below w.heap.size w w' := by
  have HAW := Lib.hid fun (W : World) (hW : Below w.heap.size w W) => awake39_any W (htb.on hW)
  have HLT := Lib.hid fun (W : World) (hW : Below w.heap.size w W) => light_any d T l W (hT.on hW) (hl.on hW)
  have HIL := Lib.hid hi.len
  have H1 := Lib.hid fun (hL : LightN T l) (h14 : d.nn ≤ 14) (h6 : d.tn ≤ 6) (hm : m ≤ 50) (W : World) (hW : Below w.heap.size w W) => all_any d l A m c ids n W (hl.on hW) (by omega) (by omega) (by rw [← hT.len]; exact hL.tier) (IR.on hi hW) (by omega)
  have H2 := Lib.hid fun (hL : LightN T l) (h14 : d.nn ≤ 14) (hm : m ≤ 50) (W : World) (hW : Below w.heap.size w W) => refAll_any d T l A m c ids n W hL (hT.on hW) (hl.on hW) h14 hn hn0 (IR.on hi hW) (by omega)
  clear hi
  clear hT hl htb
  unfold docV at HLT H1 H2
  unfold docV
  obtain ⟨rid, name, len, day, sa, sn, sc, ta, tn, tc, na, nn, nc⟩ := d
  simp only at *
  go_enter Tryz.func4, Tryz.ntmps4
  go_upto_region 1 with fail
  obtain ⟨W0, hW0⟩ : ∃ W0, (w.alloc (.cells #[.int .i64 rid, .string name, .int .i64 len, .int .i64 day, .slice sa sn sc, .slice ta tn tc, .slice na nn nc] 28)) = W0 := ⟨_, rfl⟩
  have HB0 : Hid (Below w.heap.size w W0) := by rw [← hW0]; exact ((Below.refl _ _).alloc (by simp <;> omega) _)
  have hz0 : W0.heap.size = w.heap.size + 1 := by rw [← hW0]; simp
  have HC0 : Hid (∀ X, Below W0.heap.size W0 X → X.rangeAt (w.heap.size) 0 [.int .i64 rid, .string name, .int .i64 len, .int .i64 day, .slice sa sn sc, .slice ta tn tc, .slice na nn nc]) := fun X hX => by
    refine range_below hX (by omega) fun j v hv => ?_
    rw [← hW0, Nat.zero_add]; rw [World.cell?_alloc_at _ _ _ _ (by simp), ← hv, ← List.getElem?_toArray]; try rfl
  (try rw [hW0])
  clear hW0
  have g0 := HC0.out W0 (Below.refl _ _)
  have k0 : W0.cell? ⟨w.heap.size, 0, none⟩ = some (.int .i64 rid) := g0 0 _ rfl
  have k1 : W0.cell? ⟨w.heap.size, 1, none⟩ = some (.string name) := g0 1 _ rfl
  have k2 : W0.cell? ⟨w.heap.size, 2, none⟩ = some (.int .i64 len) := g0 2 _ rfl
  have k3 : W0.cell? ⟨w.heap.size, 3, none⟩ = some (.int .i64 day) := g0 3 _ rfl
  have k4 : W0.cell? ⟨w.heap.size, 4, none⟩ = some (.slice sa sn sc) := g0 4 _ rfl
  have k5 : W0.cell? ⟨w.heap.size, 5, none⟩ = some (.slice ta tn tc) := g0 5 _ rfl
  have k6 : W0.cell? ⟨w.heap.size, 6, none⟩ = some (.slice na nn nc) := g0 6 _ rfl
  clear g0
  go_wp2_with fail
  refine (HLT.out W0 HB0.out).mono ?_
  rintro e w3 ⟨b, rfl, hlf, hb3⟩
  have HLF := Lib.hid hlf
  have HB03 : Hid (Below W0.heap.size W0 w3) := hb3
  have HB3 : Hid (Below w.heap.size w w3) := HB0.out.trans (hb3.mono HB0.out.size)
  clear hb3 hlf k0 k1 k2 k3 k4 k5 k6 HLT
  cases b with
  | false =>
    go_wp2_with fail
    refine (HAW.out _ HB3.out).mono ?_
    rintro e w5 ⟨rfl, hb5⟩
    have HB5 : Hid (Below w.heap.size w w5) := HB3.out.trans (hb5.mono HB3.out.size)
    clear hb5
    go_wp2
    go_ret
    exact ⟨rfl, HB5.out⟩
  | true =>
    obtain ⟨⟨h14, h6⟩, hL⟩ := HLF.out rfl
    by_cases hm50 : m ≤ 50
    · have HP := Lib.hid (H1.out hL h14 h6 hm50)
      have HR := Lib.hid (H2.out hL h14 hm50)
      have hmz : ¬ (50 : Int) < (m : Int) := by omega
      have hmd : decide ((50 : Int) < (m : Int)) = false := decide_eq_false hmz
      clear hL HLF H1 H2
      go_wp2_with fail
      refine wp_region_told [Told.is (.agg #[.int .i64 rid, .string name, .int .i64 len, .int .i64 day, .slice sa sn sc, .slice ta tn tc, .slice na nn nc]), Told.is (.slice A m c), Told.is (.int .i64 n), Told.such (fun v W => ∃ hs, OwnH W w3.heap.size v hs ∧ hs.map Hv.toHt = hitsL rid tn l ids n) (fun v W W' ⟨hs, h1, h2⟩ hb => ⟨hs, h1.on hb, h2⟩), Told.is (.agg #[.int .i64 rid, .string name, .int .i64 len, .int .i64 day, .slice sa sn sc, .slice ta tn tc, .slice na nn nc]), Told.is (.slice A m c), Told.is (.int .i64 n), Told.such (fun v W => ∃ hs, OwnH W w3.heap.size v hs ∧ hs.map Hv.toHt = hitsL rid tn l ids n) (fun v W W' ⟨hs, h1, h2⟩ hb => ⟨hs, h1.on hb, h2⟩), Told.is (.bool true), Told.is (.bool true), Told.is (.bool true), Told.is (.bool true), Told.is (.bool true)] (by kernel_rfl) (by kernel_rfl) ?_ ?_
      · refine And.intro (fun w1 vals hB hd K hK => ?_) ?_
        · clear hd
          simp only [putAll, Act.put, List.setIfInBounds_toArray, List.set_cons_zero, List.set_cons_succ] at hK ⊢
          obtain ⟨ve, hve⟩ : ∃ f : Nat → Value, f = vals := ⟨_, rfl⟩
          rw [← hve] at hK  ⊢
          clear hve
          refine gwp_none rfl ?_
          refine wp_load_mid 28 (.tmp 3) rfl w.heap.size 0 rfl [.int .i64 rid, .string name, .int .i64 len, .int .i64 day, .slice sa sn sc, .slice ta tn tc, .slice na nn nc] _ (HC0.out w1 (HB03.out.trans (hB.mono HB03.out.size))) Tryz.underlying28 rfl (by kernel_rfl) ?_
          simp only [Act.put, List.setIfInBounds_toArray, List.set_cons_zero, List.set_cons_succ]
          exact hK _ _ rfl (Below.refl _ _)
        refine And.intro (fun w1 vals hB hd K hK => ?_) ?_
        · clear hd
          simp only [putAll, Act.put, List.setIfInBounds_toArray, List.set_cons_zero, List.set_cons_succ] at hK ⊢
          obtain ⟨ve, hve⟩ : ∃ f : Nat → Value, f = vals := ⟨_, rfl⟩
          rw [← hve] at hK  ⊢
          clear hve
          refine gwp_none rfl ?_
          go_simp
          exact hK _ _ rfl (Below.refl _ _)
        refine And.intro (fun w1 vals hB hd K hK => ?_) ?_
        · clear hd
          simp only [putAll, Act.put, List.setIfInBounds_toArray, List.set_cons_zero, List.set_cons_succ] at hK ⊢
          obtain ⟨ve, hve⟩ : ∃ f : Nat → Value, f = vals := ⟨_, rfl⟩
          rw [← hve] at hK  ⊢
          clear hve
          refine gwp_none rfl ?_
          go_simp
          exact hK _ _ rfl (Below.refl _ _)
        refine And.intro (fun w1 vals hB hd K hK => ?_) ?_
        · have e0 : vals 0 = .agg #[.int .i64 rid, .string name, .int .i64 len, .int .i64 day, .slice sa sn sc, .slice ta tn tc, .slice na nn nc] := told_at (hd 0 rfl) rfl
          have e1 : vals 1 = .slice A m c := told_at (hd 1 rfl) rfl
          have e2 : vals 2 = .int .i64 n := told_at (hd 2 rfl) rfl
          clear hd
          simp only [putAll, Act.put, List.setIfInBounds_toArray, List.set_cons_zero, List.set_cons_succ] at hK ⊢
          simp only [e0, e1, e2] at hK ⊢
          obtain ⟨ve, hve⟩ : ∃ f : Nat → Value, f = vals := ⟨_, rfl⟩
          rw [← hve] at hK  ⊢
          clear e0 e1 e2 hve
          refine gwp_none rfl ?_
          go_simp
          refine (HP.out w1 (HB3.out.trans (hB.mono HB3.out.size))).mono ?_
          rintro e w4 ⟨v4, hs, rfl, h1, h2, hb4⟩
          exact hK _ _ ⟨hs, h1.base hB.size, h2⟩ hb4
        refine And.intro (fun w1 vals hB hd K hK => ?_) ?_
        · clear hd
          simp only [putAll, Act.put, List.setIfInBounds_toArray, List.set_cons_zero, List.set_cons_succ] at hK ⊢
          obtain ⟨ve, hve⟩ : ∃ f : Nat → Value, f = vals := ⟨_, rfl⟩
          rw [← hve] at hK  ⊢
          clear hve
          refine gwp_none rfl ?_
          refine wp_load_mid 28 (.tmp 3) rfl w.heap.size 0 rfl [.int .i64 rid, .string name, .int .i64 len, .int .i64 day, .slice sa sn sc, .slice ta tn tc, .slice na nn nc] _ (HC0.out w1 (HB03.out.trans (hB.mono HB03.out.size))) Tryz.underlying28 rfl (by kernel_rfl) ?_
          simp only [Act.put, List.setIfInBounds_toArray, List.set_cons_zero, List.set_cons_succ]
          exact hK _ _ rfl (Below.refl _ _)
        refine And.intro (fun w1 vals hB hd K hK => ?_) ?_
        · clear hd
          simp only [putAll, Act.put, List.setIfInBounds_toArray, List.set_cons_zero, List.set_cons_succ] at hK ⊢
          obtain ⟨ve, hve⟩ : ∃ f : Nat → Value, f = vals := ⟨_, rfl⟩
          rw [← hve] at hK  ⊢
          clear hve
          refine gwp_none rfl ?_
          go_simp
          exact hK _ _ rfl (Below.refl _ _)
        refine And.intro (fun w1 vals hB hd K hK => ?_) ?_
        · clear hd
          simp only [putAll, Act.put, List.setIfInBounds_toArray, List.set_cons_zero, List.set_cons_succ] at hK ⊢
          obtain ⟨ve, hve⟩ : ∃ f : Nat → Value, f = vals := ⟨_, rfl⟩
          rw [← hve] at hK  ⊢
          clear hve
          refine gwp_none rfl ?_
          go_simp
          exact hK _ _ rfl (Below.refl _ _)
        refine And.intro (fun w1 vals hB hd K hK => ?_) ?_
        · have e4 : vals 4 = .agg #[.int .i64 rid, .string name, .int .i64 len, .int .i64 day, .slice sa sn sc, .slice ta tn tc, .slice na nn nc] := told_at (hd 4 rfl) rfl
          have e5 : vals 5 = .slice A m c := told_at (hd 5 rfl) rfl
          have e6 : vals 6 = .int .i64 n := told_at (hd 6 rfl) rfl
          clear hd
          simp only [putAll, Act.put, List.setIfInBounds_toArray, List.set_cons_zero, List.set_cons_succ] at hK ⊢
          simp only [e4, e5, e6] at hK ⊢
          obtain ⟨ve, hve⟩ : ∃ f : Nat → Value, f = vals := ⟨_, rfl⟩
          rw [← hve] at hK  ⊢
          clear e4 e5 e6 hve
          refine gwp_none rfl ?_
          go_simp
          refine (HR.out w1 (HB3.out.trans (hB.mono HB3.out.size))).mono ?_
          rintro e w4 ⟨v4, hs, rfl, h1, h2, hb4⟩
          exact hK _ _ ⟨hs, h1.base hB.size, h2⟩ hb4
        refine And.intro (fun w1 vals hB hd K hK => ?_) ?_
        · have p3 := told_at (t := Told.such (fun v W => ∃ hs, OwnH W w3.heap.size v hs ∧ hs.map Hv.toHt = hitsL rid tn l ids n) (fun v W W' ⟨hs, h1, h2⟩ hb => ⟨hs, h1.on hb, h2⟩)) (hd 3 rfl) rfl
          simp only [Told.holds] at p3
          have p7 := told_at (t := Told.such (fun v W => ∃ hs, OwnH W w3.heap.size v hs ∧ hs.map Hv.toHt = hitsL rid tn l ids n) (fun v W W' ⟨hs, h1, h2⟩ hb => ⟨hs, h1.on hb, h2⟩)) (hd 7 rfl) rfl
          simp only [Told.holds] at p7
          clear hd
          obtain ⟨x3, hx3⟩ : ∃ x, vals 3 = x := ⟨_, rfl⟩
          rw [hx3] at p3
          obtain ⟨x7, hx7⟩ : ∃ x, vals 7 = x := ⟨_, rfl⟩
          rw [hx7] at p7
          simp only [putAll, Act.put, List.setIfInBounds_toArray, List.set_cons_zero, List.set_cons_succ] at hK ⊢
          simp only [hx3, hx7] at hK ⊢
          obtain ⟨ve, hve⟩ : ∃ f : Nat → Value, f = vals := ⟨_, rfl⟩
          rw [← hve] at hK  ⊢
          clear hx3 hx7 hve
          refine gwp_none rfl ?_
          obtain ⟨hs, o1, s1⟩ := p3
          obtain ⟨zs, o2, s2⟩ := p7
          obtain ⟨A1, c1, rfl, _, _, f1⟩ := OwnH.form o1
          obtain ⟨A2, c2, rfl, _, _, f2⟩ := OwnH.form o2
          have hle : zs.length = hs.length := by (have h9 := congrArg List.length (s2.trans s1.symm); rw [List.length_map, List.length_map] at h9; exact h9)
          have hl5 : hs.length ≤ 50 := by (have h9 := congrArg List.length s1; rw [List.length_map] at h9; have h8 : (hitsL rid tn l ids n).length ≤ ids.length := List.length_filterMap_le _ _; have := HIL.out; omega)
          have HSM := sameH_any A1 A2 hs.length c1 c2 hs zs w1 (s1.trans s2.symm) f1 (by rw [← hle]; exact f2) (by omega)
          obtain ⟨q, hq⟩ : ∃ q, hs.length = q := ⟨_, rfl⟩
          rw [hle, hq] at hK ⊢
          rw [hq] at HSM
          clear hq hle f1 f2 o1 o2 s1 s2 hl5
          go_simp
          refine HSM.mono ?_
          rintro e w4 ⟨rfl, hb4⟩
          exact hK _ _ rfl hb4
        refine And.intro (fun w1 vals hB hd K hK => ?_) ?_
        · have e8 : vals 8 = .bool true := told_at (hd 8 rfl) rfl
          clear hd
          simp only [putAll, Act.put, List.setIfInBounds_toArray, List.set_cons_zero, List.set_cons_succ] at hK ⊢
          simp only [e8] at hK ⊢
          obtain ⟨ve, hve⟩ : ∃ f : Nat → Value, f = vals := ⟨_, rfl⟩
          rw [← hve] at hK  ⊢
          clear e8 hve
          refine gwp_none rfl ?_
          go_simp
          exact hK _ _ rfl (Below.refl _ _)
        refine And.intro (fun w1 vals hB hd K hK => ?_) ?_
        · have g9 : vals 9 = .bool true := told_at (hd 9 rfl) rfl
          clear hd
          simp only [putAll, Act.put, List.setIfInBounds_toArray, List.set_cons_zero, List.set_cons_succ] at hK ⊢
          obtain ⟨ve, hve⟩ : ∃ f : Nat → Value, f = vals := ⟨_, rfl⟩
          rw [← hve] at hK g9 ⊢
          clear hve
          refine gwp_some rfl g9 ?_
          clear g9
          go_simp
          refine (HAW.out w1 (HB3.out.trans (hB.mono HB3.out.size))).mono ?_
          rintro e w4 ⟨rfl, hb4⟩
          exact hK _ _ rfl hb4
        refine And.intro (fun w1 vals hB hd K hK => ?_) ?_
        · have e9 : vals 9 = .bool true := told_at (hd 9 rfl) rfl
          have e10 : vals 10 = .bool true := told_at (hd 10 rfl) rfl
          clear hd
          simp only [putAll, Act.put, List.setIfInBounds_toArray, List.set_cons_zero, List.set_cons_succ] at hK ⊢
          simp only [e9, e10] at hK ⊢
          obtain ⟨ve, hve⟩ : ∃ f : Nat → Value, f = vals := ⟨_, rfl⟩
          rw [← hve] at hK  ⊢
          clear e9 e10 hve
          refine gwp_none rfl ?_
          go_simp
          exact hK _ _ rfl (Below.refl _ _)
        refine And.intro (fun w1 vals hB hd K hK => ?_) ?_
        · have e11 : vals 11 = .bool true := told_at (hd 11 rfl) rfl
          clear hd
          simp only [putAll, Act.put, List.setIfInBounds_toArray, List.set_cons_zero, List.set_cons_succ] at hK ⊢
          simp only [e11] at hK ⊢
          obtain ⟨ve, hve⟩ : ∃ f : Nat → Value, f = vals := ⟨_, rfl⟩
          rw [← hve] at hK  ⊢
          clear e11 hve
          refine gwp_none rfl ?_
          go_simp
          exact hK _ _ rfl (Below.refl _ _)
        exact trivial
      · intro w1 vals hB hd
        have e12 : vals 12 = .bool true := told_at (hd 12 (by decide)) rfl
        clear hd
        simp only [putAll, Act.put, List.setIfInBounds_toArray, List.set_cons_zero, List.set_cons_succ]
        simp only [e12]
        obtain ⟨ve, hve⟩ : ∃ f : Nat → Value, f = vals := ⟨_, rfl⟩
        rw [← hve]
        clear e12 hve
        go_wp2
        go_ret
        exact ⟨rfl, HB3.out.trans (hB.mono HB3.out.size)⟩
    · have hmz : (50 : Int) < (m : Int) := by omega
      have hmd : decide ((50 : Int) < (m : Int)) = true := decide_eq_true hmz
      clear hL HLF H1 H2 hm50
      go_wp2_with fail
      refine (HAW.out _ HB3.out).mono ?_
      rintro e w5 ⟨rfl, hb5⟩
      have HB5 : Hid (Below w.heap.size w w5) := HB3.out.trans (hb5.mono HB3.out.size)
      clear hb5
      go_wp2
      go_ret
      exact ⟨rfl, HB5.out⟩
end Go.Proofs.YtdpllfgnppeneaaGreatDoor
