import Derived.Test.YthcabnfcgjnlnaaGreatDoorK13
/-
  The program's tiers.Of: the notes of a tier, parent by parent.
-/
namespace Go.Proofs.YthcabnfcgjnlnaaGreatDoor
open Go.RowKit Ru Lay
attribute [local go_sem ↓] Go.wp_at_zero Go.wp_at_succ
set_option linter.unusedVariables false
set_option linter.unusedSimpArgs false

theorem one_intI (l : List Int) : ∀ u ∈ l.map (Value.int .i64), u.oneCell' = true := fun u hu => by
  obtain ⟨x, _, rfl⟩ := List.mem_map.1 hu
  rfl
theorem flatMap_next {f : Int → List Int} {ids : List Int} {i : Nat} {x : Int} (h : ids[i]? = some x) : (ids.take (i + 1)).flatMap f = (ids.take i).flatMap f ++ f x := by
  rw [List.take_add_one, h]
  simp [List.flatMap_append]
theorem flatMap_part {f : Int → List Int} {ids : List Int} (i : Nat) : ((ids.take i).flatMap f).length ≤ (ids.flatMap f).length := by
  conv => rhs; rw [← List.take_append_drop i ids]
  rw [List.flatMap_append, List.length_append]
  omega
set_option maxHeartbeats 4000000 in
set_option maxRecDepth 100000 in
theorem of_step (d : Dv) (T : List Ti) (l : List Nt) (j : Nat) (x : Ti) (ids : List Int) (w : World) (hT : TiersR w w.heap.size d.ta d.tn T) (hl : NotesR w w.heap.size d.na d.nn l) (hnn : d.nn < 20) (htn : d.tn ≤ 1000000)
    (hj : j < d.tn) (hx : T[j]? = some x) (hk : x.kind ≠ 0) (hlen : ids.length ≤ 1000000) (hz : (ids.flatMap fun id => kidsL d.tn l id (j : Int)).length ≤ 1000000)
    (hih : ∀ W, Below w.heap.size w W → Calls Tryz.prog 45 #[docV d, .int .i64 x.parent] W fun e w' => ∃ v, e = .returned v ∧ OwnI w' W.heap.size v ids ∧ Below W.heap.size W w') :
    Calls Tryz.prog 45 #[docV d, .int .i64 (j : Int)] w fun e w' => ∃ v, e = .returned v ∧ OwnI w' w.heap.size v (ids.flatMap fun id => kidsL d.tn l id (j : Int)) ∧ Below w.heap.size w w' := by
  have HIHX := Lib.hid hih
  have HZ := Lib.hid hz
  clear hih hz
  have HC := Lib.hid fun (W : World) (hW : Below w.heap.size w W) (id t : Int) => kids_any d l id t W (hl.on hW) hnn (by omega)
  have HT := Lib.hid hT
  clear hl hT
  unfold docV at HC HIHX
  unfold docV
  obtain ⟨rid, name, len, day, sa, sn, sc, ta, tn, tc, na, nn, nc⟩ := d
  simp only at HC HIHX HZ hnn htn HT hj ⊢
  obtain ⟨W0, hW0, hz0, hB0, hK0⟩ := doc_cells w rid name len day sa ta na sn sc tn tc nn nc
  have HB := Lib.hid hB0
  have HK := Lib.hid hK0
  clear hB0 hK0
  obtain ⟨ad, x', rfl, hab, hx', _, hcells⟩ := HT.out.at_ hj
  rw [hx] at hx'
  cases hx'
  have HC3 := Lib.hid fun W hW => (hcells W hW).2.2.2
  obtain ⟨q0, q1, q2, q3⟩ := hcells W0 HB.out
  have b0 : (x.kind == 0) = false := beq_eq_false_iff_ne.2 hk
  obtain ⟨xn, xk, xr, xp⟩ := x
  simp only at b0 q0 q1 q2 q3 HC3 HIHX
  have HIH := HIHX
  have hjn : (j : Int) < (tn : Int) := by omega
  have hjl : ¬ (tn : Int) ≤ (j : Int) := by omega
  have hjA : (0 : Int) ≤ (j : Int) := by omega
  have hjB : ¬ (j : Int) < 0 := by omega
  have k0 : W0.cell? ⟨w.heap.size, 0, none⟩ = some (.int .i64 rid) := HK.out W0 (Below.refl _ _) 0 _ rfl
  have k1 : W0.cell? ⟨w.heap.size, 1, none⟩ = some (.string name) := HK.out W0 (Below.refl _ _) 1 _ rfl
  have k2 : W0.cell? ⟨w.heap.size, 2, none⟩ = some (.int .i64 len) := HK.out W0 (Below.refl _ _) 2 _ rfl
  have k3 : W0.cell? ⟨w.heap.size, 3, none⟩ = some (.int .i64 day) := HK.out W0 (Below.refl _ _) 3 _ rfl
  have k4 : W0.cell? ⟨w.heap.size, 4, none⟩ = some (.slice sa sn sc) := HK.out W0 (Below.refl _ _) 4 _ rfl
  have k5 : W0.cell? ⟨w.heap.size, 5, none⟩ = some (.slice (some ad) tn tc) := HK.out W0 (Below.refl _ _) 5 _ rfl
  have k6 : W0.cell? ⟨w.heap.size, 6, none⟩ = some (.slice na nn nc) := HK.out W0 (Below.refl _ _) 6 _ rfl
  clear hcells hx hk HIHX
  go_enter Tryz.func45, Tryz.ntmps45
  go_upto_region 1 with fail
  (try rw [hW0])
  clear hW0
  go_upto_region 6 with fail
  clear k0 k1 k2 k3 k4 k5 k6 q0 q1 q2 q3 b0
  refine wp_region_told [Told.is (.agg #[.int .i64 rid, .string name, .int .i64 len, .int .i64 day, .slice sa sn sc, .slice (some ad) tn tc, .slice na nn nc]), Told.is (.pointer (some ⟨w.heap.size, 5, none⟩)), Told.is (.slice (some ad) tn tc), Told.is (.int .i64 (j : Int)), Told.is (.pointer (some (ad.add (j * 4)))), Told.is (.pointer (some ⟨(ad.add (j * 4)).block, (ad.add (j * 4)).off + 3, none⟩)), Told.is (.int .i64 xp), Told.such (fun v W => OwnI W W0.heap.size v ids) (fun v W W' h hb => h.on hb), Told.is (.int .i64 (ids.length : Int)), Told.is (.int .i64 0)] (by kernel_rfl) (by kernel_rfl) ?_ ?_
  · refine And.intro (fun w1 vals hB hd K hK => ?_) ?_
    · clear hd
      simp only [putAll, Act.put, List.setIfInBounds_toArray, List.set_cons_zero, List.set_cons_succ] at hK ⊢
      obtain ⟨ve, hve⟩ : ∃ f : Nat → Value, f = vals := ⟨_, rfl⟩
      rw [← hve] at hK  ⊢
      clear hve
      refine gwp_none rfl ?_
      have hg := HK.out w1 hB
      have k0 : w1.cell? ⟨w.heap.size, 0, none⟩ = some (.int .i64 rid) := hg 0 _ rfl
      have k1 : w1.cell? ⟨w.heap.size, 1, none⟩ = some (.string name) := hg 1 _ rfl
      have k2 : w1.cell? ⟨w.heap.size, 2, none⟩ = some (.int .i64 len) := hg 2 _ rfl
      have k3 : w1.cell? ⟨w.heap.size, 3, none⟩ = some (.int .i64 day) := hg 3 _ rfl
      have k4 : w1.cell? ⟨w.heap.size, 4, none⟩ = some (.slice sa sn sc) := hg 4 _ rfl
      have k5 : w1.cell? ⟨w.heap.size, 5, none⟩ = some (.slice (some ad) tn tc) := hg 5 _ rfl
      have k6 : w1.cell? ⟨w.heap.size, 6, none⟩ = some (.slice na nn nc) := hg 6 _ rfl
      clear hg
      go_simp
      exact hK _ _ rfl (Below.refl _ _)
    refine And.intro (fun w1 vals hB hd K hK => ?_) ?_
    · clear hd
      simp only [putAll, Act.put, List.setIfInBounds_toArray, List.set_cons_zero, List.set_cons_succ] at hK ⊢
      obtain ⟨ve, hve⟩ : ∃ f : Nat → Value, f = vals := ⟨_, rfl⟩
      rw [← hve] at hK  ⊢
      clear hve
      refine gwp_none rfl ?_
      go_simp
      exact hK _ _ rfl (Below.refl _ _)
    refine And.intro (fun w1 vals hB hd K hK => ?_) ?_
    · have e1 : vals 1 = .pointer (some ⟨w.heap.size, 5, none⟩) := told_at (hd 1 rfl) rfl
      clear hd
      simp only [putAll, Act.put, List.setIfInBounds_toArray, List.set_cons_zero, List.set_cons_succ] at hK ⊢
      simp only [e1] at hK ⊢
      obtain ⟨ve, hve⟩ : ∃ f : Nat → Value, f = vals := ⟨_, rfl⟩
      rw [← hve] at hK  ⊢
      clear e1 hve
      refine gwp_none rfl ?_
      have k5 : w1.cell? ⟨w.heap.size, 5, none⟩ = some (.slice (some ad) tn tc) := HK.out w1 hB 5 _ rfl
      go_simp
      exact hK _ _ rfl (Below.refl _ _)
    refine And.intro (fun w1 vals hB hd K hK => ?_) ?_
    · clear hd
      simp only [putAll, Act.put, List.setIfInBounds_toArray, List.set_cons_zero, List.set_cons_succ] at hK ⊢
      obtain ⟨ve, hve⟩ : ∃ f : Nat → Value, f = vals := ⟨_, rfl⟩
      rw [← hve] at hK  ⊢
      clear hve
      refine gwp_none rfl ?_
      go_simp
      exact hK _ _ rfl (Below.refl _ _)
    refine And.intro (fun w1 vals hB hd K hK => ?_) ?_
    · have e2 : vals 2 = .slice (some ad) tn tc := told_at (hd 2 rfl) rfl
      have e3 : vals 3 = .int .i64 (j : Int) := told_at (hd 3 rfl) rfl
      clear hd
      simp only [putAll, Act.put, List.setIfInBounds_toArray, List.set_cons_zero, List.set_cons_succ] at hK ⊢
      simp only [e2, e3] at hK ⊢
      obtain ⟨ve, hve⟩ : ∃ f : Nat → Value, f = vals := ⟨_, rfl⟩
      rw [← hve] at hK  ⊢
      clear e2 e3 hve
      refine gwp_none rfl ?_
      go_simp
      exact hK _ _ rfl (Below.refl _ _)
    refine And.intro (fun w1 vals hB hd K hK => ?_) ?_
    · have e4 : vals 4 = .pointer (some (ad.add (j * 4))) := told_at (hd 4 rfl) rfl
      clear hd
      simp only [putAll, Act.put, List.setIfInBounds_toArray, List.set_cons_zero, List.set_cons_succ] at hK ⊢
      simp only [e4] at hK ⊢
      obtain ⟨ve, hve⟩ : ∃ f : Nat → Value, f = vals := ⟨_, rfl⟩
      rw [← hve] at hK  ⊢
      clear e4 hve
      refine gwp_none rfl ?_
      go_simp
      exact hK _ _ rfl (Below.refl _ _)
    refine And.intro (fun w1 vals hB hd K hK => ?_) ?_
    · have e5 : vals 5 = .pointer (some ⟨(ad.add (j * 4)).block, (ad.add (j * 4)).off + 3, none⟩) := told_at (hd 5 rfl) rfl
      clear hd
      simp only [putAll, Act.put, List.setIfInBounds_toArray, List.set_cons_zero, List.set_cons_succ] at hK ⊢
      simp only [e5] at hK ⊢
      obtain ⟨ve, hve⟩ : ∃ f : Nat → Value, f = vals := ⟨_, rfl⟩
      rw [← hve] at hK  ⊢
      clear e5 hve
      refine gwp_none rfl ?_
      have r3 := HC3.out w1 (HB.out.trans (hB.mono HB.out.size))
      go_simp
      exact hK _ _ rfl (Below.refl _ _)
    refine And.intro (fun w1 vals hB hd K hK => ?_) ?_
    · have e0 : vals 0 = .agg #[.int .i64 rid, .string name, .int .i64 len, .int .i64 day, .slice sa sn sc, .slice (some ad) tn tc, .slice na nn nc] := told_at (hd 0 rfl) rfl
      have e6 : vals 6 = .int .i64 xp := told_at (hd 6 rfl) rfl
      clear hd
      simp only [putAll, Act.put, List.setIfInBounds_toArray, List.set_cons_zero, List.set_cons_succ] at hK ⊢
      simp only [e0, e6] at hK ⊢
      obtain ⟨ve, hve⟩ : ∃ f : Nat → Value, f = vals := ⟨_, rfl⟩
      rw [← hve] at hK  ⊢
      clear e0 e6 hve
      refine gwp_none rfl ?_
      go_simp
      refine (HIH.out w1 (HB.out.trans (hB.mono HB.out.size))).mono ?_
      rintro e w2 ⟨v, rfl, hO, hb⟩
      exact hK _ _ (own_base hO hB.size) hb
    refine And.intro (fun w1 vals hB hd K hK => ?_) ?_
    · have p7 := told_at (t := Told.such (fun v W => OwnI W W0.heap.size v ids) (fun v W W' h hb => h.on hb)) (hd 7 rfl) rfl
      simp only [Told.holds] at p7
      clear hd
      obtain ⟨x7, hx7⟩ : ∃ x, vals 7 = x := ⟨_, rfl⟩
      rw [hx7] at p7
      simp only [putAll, Act.put, List.setIfInBounds_toArray, List.set_cons_zero, List.set_cons_succ] at hK ⊢
      simp only [hx7] at hK ⊢
      obtain ⟨ve, hve⟩ : ∃ f : Nat → Value, f = vals := ⟨_, rfl⟩
      rw [← hve] at hK  ⊢
      clear hx7 hve
      refine gwp_none rfl ?_
      obtain ⟨A3, c3, rfl, _, _, _⟩ := OwnI.form p7
      go_simp
      exact hK _ _ rfl (Below.refl _ _)
    refine And.intro (fun w1 vals hB hd K hK => ?_) ?_
    · clear hd
      simp only [putAll, Act.put, List.setIfInBounds_toArray, List.set_cons_zero, List.set_cons_succ] at hK ⊢
      obtain ⟨ve, hve⟩ : ∃ f : Nat → Value, f = vals := ⟨_, rfl⟩
      rw [← hve] at hK  ⊢
      clear hve
      refine gwp_none rfl ?_
      go_simp
      exact hK _ _ rfl (Below.refl _ _)
    exact trivial
  · intro w1 vals hB hd
    have p7 := told_at (t := Told.such (fun v W => OwnI W W0.heap.size v ids) (fun v W W' h hb => h.on hb)) (hd 7 (by decide)) rfl
    simp only [Told.holds] at p7
    have e8 : vals 8 = .int .i64 (ids.length : Int) := told_at (hd 8 (by decide)) rfl
    have e9 : vals 9 = .int .i64 0 := told_at (hd 9 (by decide)) rfl
    obtain ⟨x7, hx7⟩ : ∃ x, vals 7 = x := ⟨_, rfl⟩
    rw [hx7] at p7
    clear hd
    simp only [putAll, Act.put, List.setIfInBounds_toArray, List.set_cons_zero, List.set_cons_succ]
    simp only [hx7, e8, e9]
    obtain ⟨ve, hve⟩ : ∃ f : Nat → Value, f = vals := ⟨_, rfl⟩
    rw [← hve]
    clear hx7 e8 e9 hve
    have HO7 := Lib.hid p7
    have HB1 : Hid (Below W0.heap.size W0 w1) := hB
    obtain ⟨A7, c7, hv7, h7a, h7b, h7r⟩ := OwnI.form HO7.out
    subst hv7
    have HIR := Lib.hid h7r
    clear hB p7 h7a h7b h7r
    go_wp2_with fail
    go_loopw [5, 7, 36] (fun v5 v7 v36 wr => ∃ i : Nat, i ≤ ids.length ∧ v36 = .int .i64 i ∧ Hid (OwnI wr w1.heap.size v5 ((ids.take i).flatMap fun id => kidsL tn l id (j : Int))) ∧ Hid (Below w1.heap.size w1 wr)) (fun _ _ v36 _ => ids.length - (intOf v36).toNat)
    case atStart => exact ⟨0, Nat.zero_le _, rfl, OwnI.nil _ _, Below.refl _ _⟩
    case round =>
      obtain ⟨i, hi, rfl, HO, HB2⟩ := hrel
      obtain ⟨w2, hw2⟩ : ∃ w2, wr = w2 := ⟨_, rfl⟩
      rw [hw2] at HO HB2 ⊢
      clear hw2
      have HB12 : Hid (Below W0.heap.size W0 w2) := HB1.out.trans (HB2.out.mono HB1.out.size)
      by_cases hlt : i < ids.length
      · have hiz : (i : Int) < (ids.length : Int) := by omega
        have hiA : (0 : Int) ≤ (i : Int) := by omega
        obtain ⟨bd, id, hA, hbb, hidx, hc⟩ := HIR.out.at_ hlt
        subst hA
        have hcw : w2.cell? (bd.add i) = some (.int .i64 id) := (HB2.out.cell (by rw [block_of_add]; exact hbb)).trans hc
        have HLT := Lib.hid hlt
        have HNX := Lib.hid (flatMap_next (f := fun id => kidsL tn l id (j : Int)) hidx)
        have HPT : Hid (((ids.take i).flatMap fun id => kidsL tn l id (j : Int)).length + (kidsL tn l id (j : Int)).length ≤ 1000000) := by
          have h1 := flatMap_part (f := fun id => kidsL tn l id (j : Int)) (ids := ids) (i + 1)
          have h2 := HZ.out
          rw [HNX.out, List.length_append] at h1
          show _ ≤ _
          omega
        have HCC := Lib.hid (HC.out w2 (HB.out.trans (HB12.out.mono HB.out.size)) id (j : Int))
        obtain ⟨ks, hks⟩ : ∃ ks, kidsL tn l id (j : Int) = ks := ⟨_, rfl⟩
        obtain ⟨ll, hll⟩ : ∃ ll, ((ids.take i).flatMap fun id => kidsL tn l id (j : Int)) = ll := ⟨_, rfl⟩
        rw [hks] at HNX HPT HCC
        rw [hll] at HNX HPT HO
        have hpt := HPT.out
        have hsz := HB2.out.size
        clear hc hidx hks hll
        have k0 : w2.cell? ⟨w.heap.size, 0, none⟩ = some (.int .i64 rid) := HK.out w2 HB12.out 0 _ rfl
        have k1 : w2.cell? ⟨w.heap.size, 1, none⟩ = some (.string name) := HK.out w2 HB12.out 1 _ rfl
        have k2 : w2.cell? ⟨w.heap.size, 2, none⟩ = some (.int .i64 len) := HK.out w2 HB12.out 2 _ rfl
        have k3 : w2.cell? ⟨w.heap.size, 3, none⟩ = some (.int .i64 day) := HK.out w2 HB12.out 3 _ rfl
        have k4 : w2.cell? ⟨w.heap.size, 4, none⟩ = some (.slice sa sn sc) := HK.out w2 HB12.out 4 _ rfl
        have k5 : w2.cell? ⟨w.heap.size, 5, none⟩ = some (.slice (some ad) tn tc) := HK.out w2 HB12.out 5 _ rfl
        have k6 : w2.cell? ⟨w.heap.size, 6, none⟩ = some (.slice na nn nc) := HK.out w2 HB12.out 6 _ rfl
        go_wp2_with fail
        refine HCC.out.mono ?_
        rintro e w3 ⟨v, rfl, hO3, hb3⟩
        obtain ⟨A3, c3, rfl, h3a, h3b, h3r⟩ := OwnI.form hO3
        have HR3 := Lib.hid h3r
        have HOO := Lib.hid (HO.out.on hb3)
        have HB3 : Hid (Below w1.heap.size w1 w3) := HB2.out.trans (hb3.mono hsz)
        have hs3 := HB3.out.size
        clear hO3 hb3 h3a h3b h3r HO k0 k1 k2 k3 k4 k5 k6 hcw
        go_wp2_with (at_builtin; refine wpList_app rfl (.tmp 40) (.tmp 44) 32 rfl w1.heap.size 3 8 (.int .i64 0) info_int rfl Tryz.underlying32 rfl (n := ll.length) HOO.out (A := A3) (m := ks.length) (c := c3) rfl HR3.out (one_intI _) (by omega) (by omega) hs3 ?_; intro v5 w4 hown5 hg5 hat5)
        have HO4 : Hid (OwnI w4 w1.heap.size v5 (ll ++ ks)) := by
          show World.ownsRow _ _ _ _ _ _ _
          unfold intV at *
          rw [List.length_append, List.map_append]
          exact hown5
        have HB4 : Hid (Below w1.heap.size w1 w4) := below_app HB3.out HOO.out hg5 (Nat.le_refl _) hs3
        clear hown5 hg5 hat5
        go_wp2
        go_roundw
        case rel => exact ⟨i + 1, HLT.out, by go_num, (by rw [HNX.out]; exact HO4), HB4⟩
        case measure => have := HLT.out; simp [intOf]; omega
      · obtain rfl : i = ids.length := by omega
        have hiz : ¬ (ids.length : Int) < (ids.length : Int) := by omega
        rw [List.take_length] at HO
        go_wp2
        go_ret
        exact ⟨_, rfl, own_base HO.out (by have := HB1.out.size; have := HB.out.size; omega), HB.out.trans (HB12.out.mono HB.out.size)⟩
set_option maxHeartbeats 2000000 in
set_option maxRecDepth 100000 in
theorem of_out (d : Dv) (t : Int) (w : World) (h : t < 0 ∨ (d.tn : Int) ≤ t) :
    Calls Tryz.prog 45 #[docV d, .int .i64 t] w fun e w' => ∃ v, e = .returned v ∧ OwnI w' w.heap.size v [] ∧ Below w.heap.size w w' := by
  unfold docV
  obtain ⟨rid, name, len, day, sa, sn, sc, ta, tn, tc, na, nn, nc⟩ := d
  simp only at h ⊢
  obtain ⟨W0, hW0, hz0, hB0, hK0⟩ := doc_cells w rid name len day sa ta na sn sc tn tc nn nc
  have HB := Lib.hid hB0
  have HK := Lib.hid hK0
  clear hB0 hK0
  have k0 : W0.cell? ⟨w.heap.size, 0, none⟩ = some (.int .i64 rid) := HK.out W0 (Below.refl _ _) 0 _ rfl
  have k1 : W0.cell? ⟨w.heap.size, 1, none⟩ = some (.string name) := HK.out W0 (Below.refl _ _) 1 _ rfl
  have k2 : W0.cell? ⟨w.heap.size, 2, none⟩ = some (.int .i64 len) := HK.out W0 (Below.refl _ _) 2 _ rfl
  have k3 : W0.cell? ⟨w.heap.size, 3, none⟩ = some (.int .i64 day) := HK.out W0 (Below.refl _ _) 3 _ rfl
  have k4 : W0.cell? ⟨w.heap.size, 4, none⟩ = some (.slice sa sn sc) := HK.out W0 (Below.refl _ _) 4 _ rfl
  have k5 : W0.cell? ⟨w.heap.size, 5, none⟩ = some (.slice ta tn tc) := HK.out W0 (Below.refl _ _) 5 _ rfl
  have k6 : W0.cell? ⟨w.heap.size, 6, none⟩ = some (.slice na nn nc) := HK.out W0 (Below.refl _ _) 6 _ rfl
  go_enter Tryz.func45, Tryz.ntmps45
  go_upto_region 1 with fail
  (try rw [hW0])
  clear hW0
  by_cases h0 : t < 0
  · have c0 : decide (t < 0) = true := decide_eq_true h0
    clear h
    go_wp2
    go_ret
    exact ⟨_, rfl, OwnI.nil _ _, HB.out⟩
  · have c0 : decide (t < 0) = false := decide_eq_false h0
    have h1 : (tn : Int) ≤ t := by omega
    have c1 : decide (t ≥ (tn : Int)) = true := decide_eq_true h1
    clear h
    go_wp2
    go_ret
    exact ⟨_, rfl, OwnI.nil _ _, HB.out⟩
set_option maxHeartbeats 2000000 in
set_option maxRecDepth 100000 in
theorem of_root (d : Dv) (T : List Ti) (l : List Nt) (j : Nat) (x : Ti) (w : World) (hT : TiersR w w.heap.size d.ta d.tn T) (hl : NotesR w w.heap.size d.na d.nn l) (hnn : d.nn < 20) (htn : d.tn ≤ 1000000)
    (hj : j < d.tn) (hx : T[j]? = some x) (hk : x.kind = 0) :
    Calls Tryz.prog 45 #[docV d, .int .i64 (j : Int)] w fun e w' => ∃ v, e = .returned v ∧ OwnI w' w.heap.size v (kidsL d.tn l 0 (j : Int)) ∧ Below w.heap.size w w' := by
  have HC := Lib.hid fun (W : World) (hW : Below w.heap.size w W) (id t : Int) => kids_any d l id t W (hl.on hW) hnn (by omega)
  have HT := Lib.hid hT
  clear hl hT
  unfold docV at HC
  unfold docV
  obtain ⟨rid, name, len, day, sa, sn, sc, ta, tn, tc, na, nn, nc⟩ := d
  simp only at HC hnn htn HT hj ⊢
  obtain ⟨W0, hW0, hz0, hB0, hK0⟩ := doc_cells w rid name len day sa ta na sn sc tn tc nn nc
  have HB := Lib.hid hB0
  have HK := Lib.hid hK0
  clear hB0 hK0
  obtain ⟨ad, x', rfl, hab, hx', _, hcells⟩ := HT.out.at_ hj
  rw [hx] at hx'
  cases hx'
  obtain ⟨q0, q1, q2, q3⟩ := hcells W0 HB.out
  have b0 : (x.kind == 0) = true := beq_iff_eq.2 hk
  obtain ⟨xn, xk, xr, xp⟩ := x
  simp only at b0 q0 q1 q2 q3
  have hjn : (j : Int) < (tn : Int) := by omega
  have hjl : ¬ (tn : Int) ≤ (j : Int) := by omega
  have hjA : (0 : Int) ≤ (j : Int) := by omega
  have hjB : ¬ (j : Int) < 0 := by omega
  have HCC := Lib.hid (HC.out W0 HB.out 0 (j : Int))
  have k0 : W0.cell? ⟨w.heap.size, 0, none⟩ = some (.int .i64 rid) := HK.out W0 (Below.refl _ _) 0 _ rfl
  have k1 : W0.cell? ⟨w.heap.size, 1, none⟩ = some (.string name) := HK.out W0 (Below.refl _ _) 1 _ rfl
  have k2 : W0.cell? ⟨w.heap.size, 2, none⟩ = some (.int .i64 len) := HK.out W0 (Below.refl _ _) 2 _ rfl
  have k3 : W0.cell? ⟨w.heap.size, 3, none⟩ = some (.int .i64 day) := HK.out W0 (Below.refl _ _) 3 _ rfl
  have k4 : W0.cell? ⟨w.heap.size, 4, none⟩ = some (.slice sa sn sc) := HK.out W0 (Below.refl _ _) 4 _ rfl
  have k5 : W0.cell? ⟨w.heap.size, 5, none⟩ = some (.slice (some ad) tn tc) := HK.out W0 (Below.refl _ _) 5 _ rfl
  have k6 : W0.cell? ⟨w.heap.size, 6, none⟩ = some (.slice na nn nc) := HK.out W0 (Below.refl _ _) 6 _ rfl
  clear hcells hx hk
  go_enter Tryz.func45, Tryz.ntmps45
  go_upto_region 1 with fail
  (try rw [hW0])
  clear hW0
  go_wp2_with fail
  refine HCC.out.mono ?_
  rintro e w1 ⟨v, rfl, hO, hb⟩
  have HO := Lib.hid hO
  have HB1 := Lib.hid hb
  clear hO hb k0 k1 k2 k3 k4 k5 k6 q0 q1 q2 q3 b0
  go_wp2
  go_ret
  exact ⟨_, rfl, own_base HO.out HB.out.size, HB.out.trans (HB1.out.mono HB.out.size)⟩
/-- The program's Of is the reference's order, on a right document. -/
theorem ofP_any (d : Dv) (T : List Ti) (l : List Nt) (hL : LightN T l) (hU : TierUp T) (hnn : d.nn < 20) (htn : d.tn ≤ 1000000) : ∀ (f : Nat) (t : Int) (w : World), t < (f : Int) → TiersR w w.heap.size d.ta d.tn T → NotesR w w.heap.size d.na d.nn l →
    Calls Tryz.prog 45 #[docV d, .int .i64 t] w fun e w' => ∃ v, e = .returned v ∧ OwnI w' w.heap.size v (if t < 0 ∨ (T.length : Int) ≤ t then [] else ofL T l t) ∧ Below w.heap.size w w'
  | 0, t, w, hf, hT, hl => by
    rw [if_pos (.inl (by omega))]
    exact of_out d t w (.inl (by omega))
  | f + 1, t, w, hf, hT, hl => by
    have hTl := hT.len
    by_cases h : t < 0 ∨ (T.length : Int) ≤ t
    · rw [if_pos h]
      exact of_out d t w (by rw [hTl] at h; exact h)
    · rw [if_neg h]
      obtain ⟨j, rfl⟩ : ∃ j : Nat, t = (j : Int) := ⟨t.toNat, by omega⟩
      have hj : j < T.length := by omega
      have hx : T[j]? = some T[j] := List.getElem?_eq_getElem hj
      have htt : tierT T (j : Int) = T[j] := by unfold tierT; rw [List.getD, Int.toNat_natCast, hx]; rfl
      have hpo := progOf_is hL hU (j + 1) (j : Int) (by omega) (by omega) (by omega)
      have hll := ofL_len (T := T) (l := l) (tier := (j : Int))
      have hnl := hl.len
      unfold progOf at hpo
      rw [if_neg (by omega), htt, hTl] at hpo
      by_cases hk : T[j].kind = 0
      · rw [if_pos hk] at hpo
        rw [← hpo]
        exact of_root d T l j T[j] w hT hl hnn htn (by omega) hx hk
      · rw [if_neg hk] at hpo
        obtain ⟨hp0, hp1⟩ := hU (j : Int) (by omega) (by omega) (by rw [htt]; exact hk)
        rw [htt] at hp0 hp1
        rw [progOf_is hL hU j _ hp0 (by omega) (by omega)] at hpo
        have hpl := ofL_len (T := T) (l := l) (tier := T[j].parent)
        rw [← hpo] at hll ⊢
        refine of_step d T l j T[j] (ofL T l T[j].parent) w hT hl hnn htn (by omega) hx hk (by omega) (by omega) fun W hW => ?_
        have ih := ofP_any d T l hL hU hnn htn f T[j].parent W (by omega) (hT.on hW) (hl.on hW)
        rw [if_neg (by omega)] at ih
        exact ih
end Go.Proofs.YthcabnfcgjnlnaaGreatDoor
/-
  grammar.words: the words of a note.
-/
namespace Go.Proofs.YthcabnfcgjnlnaaGreatDoor
open Go.RowKit Ru Lay
attribute [local go_sem ↓] Go.wp_at_zero Go.wp_at_succ
set_option linter.unusedVariables false
set_option linter.unusedSimpArgs false

/-- The notes of a tier, if it is one. -/
def ofI (T : List Ti) (l : List Nt) (t : Int) : List Int := if t < 0 ∨ (T.length : Int) ≤ t then [] else ofL T l t
theorem ofI_len {T : List Ti} {l : List Nt} {t : Int} : (ofI T l t).length ≤ l.length := by
  unfold ofI
  split
  · exact Nat.zero_le _
  · exact ofL_len
def wordsL (T : List Ti) (l : List Nt) (id : Int) (K : Nat) : List Int := (ofI T l (roleT T 2)).filter fun x => decide (id ∈ chainL l x K)
theorem filter_next {p : Int → Bool} {ids : List Int} {i : Nat} {x : Int} (h : ids[i]? = some x) : (ids.take (i + 1)).filter p = (ids.take i).filter p ++ (if p x = true then [x] else []) := by
  rw [List.take_add_one, h, List.filter_append]
  simp [List.filter_cons]
set_option maxHeartbeats 4000000 in
set_option maxRecDepth 100000 in
theorem words_any (d : Dv) (T : List Ti) (l : List Nt) (id : Int) (K : Nat) (w : World) (hT : TiersR w w.heap.size d.ta d.tn T) (hl : NotesR w w.heap.size d.na d.nn l) (hL : LightN T l) (hU : TierUp T) (hnn : d.nn < 20) (htn : d.tn ≤ 1000000)
    (hend : ∀ x, curF l x K = none) (hK : K ≤ 1000000) :
    Calls Tryz.prog 37 #[docV d, .int .i64 id] w fun e w' => ∃ v, e = .returned v ∧ OwnI w' w.heap.size v (wordsL T l id K) ∧ Below w.heap.size w w' := by
  have hTl := hT.len
  have hlen : (ofI T l (roleT T 2)).length ≤ 1000000 := by have := ofI_len (T := T) (l := l) (t := roleT T 2); have := hl.len; omega
  have HRO := Lib.hid fun (W : World) (hW : Below w.heap.size w W) => role_any d.ta d.tn d.tc T 2 W (hT.on hW) (by omega)
  have hrl : roleT T 2 < ((T.length + 1 : Nat) : Int) := by rcases roleT_some T 2 with e | ⟨_, e, _⟩ <;> omega
  have HOF : Hid (∀ W, Below w.heap.size w W → Calls Tryz.prog 45 #[docV d, .int .i64 (roleT T 2)] W fun e w' => ∃ v, e = .returned v ∧ OwnI w' W.heap.size v (ofI T l (roleT T 2)) ∧ Below W.heap.size W w') := fun W hW => ofP_any d T l hL hU hnn htn (T.length + 1) (roleT T 2) W hrl (hT.on hW) (hl.on hW)
  have HCH := Lib.hid fun (W : World) (hW : Below w.heap.size w W) (x : Int) => chain_any d l x K W (hl.on hW) (by omega) (hend x) hK
  unfold wordsL
  obtain ⟨rt, hrt⟩ : ∃ rt, roleT T 2 = rt := ⟨_, rfl⟩
  rw [hrt] at HRO HOF hlen ⊢
  obtain ⟨ids, hids⟩ : ∃ ids, ofI T l rt = ids := ⟨_, rfl⟩
  rw [hids] at HOF hlen ⊢
  clear hT hl hL hU hend hTl hrl hrt hids
  unfold docV at HOF HCH
  unfold docV
  obtain ⟨rid, name, len, day, sa, sn, sc, ta, tn, tc, na, nn, nc⟩ := d
  simp only at HRO HOF HCH hnn htn ⊢
  obtain ⟨W0, hW0, hz0, hB0, hK0⟩ := doc_cells w rid name len day sa ta na sn sc tn tc nn nc
  have HB := Lib.hid hB0
  have HK := Lib.hid hK0
  clear hB0 hK0
  go_enter Tryz.func37, Tryz.ntmps37
  go_upto_region 2 with fail
  (try rw [hW0])
  clear hW0
  refine wp_region_told [Told.is (.agg #[.int .i64 rid, .string name, .int .i64 len, .int .i64 day, .slice sa sn sc, .slice ta tn tc, .slice na nn nc]), Told.is (.pointer (some ⟨w.heap.size, 5, none⟩)), Told.is (.slice ta tn tc), Told.is (.int .i64 rt), Told.such (fun v W => OwnI W W0.heap.size v ids) (fun v W W' h hb => h.on hb), Told.is (.int .i64 (ids.length : Int)), Told.is (.int .i64 0)] (by kernel_rfl) (by kernel_rfl) ?_ ?_
  · refine And.intro (fun w1 vals hB hd K hK => ?_) ?_
    · clear hd
      simp only [putAll, Act.put, List.setIfInBounds_toArray, List.set_cons_zero, List.set_cons_succ] at hK ⊢
      obtain ⟨ve, hve⟩ : ∃ f : Nat → Value, f = vals := ⟨_, rfl⟩
      rw [← hve] at hK  ⊢
      clear hve
      refine gwp_none rfl ?_
      have k0 : w1.cell? ⟨w.heap.size, 0, none⟩ = some (.int .i64 rid) := HK.out w1 hB 0 _ rfl
      have k1 : w1.cell? ⟨w.heap.size, 1, none⟩ = some (.string name) := HK.out w1 hB 1 _ rfl
      have k2 : w1.cell? ⟨w.heap.size, 2, none⟩ = some (.int .i64 len) := HK.out w1 hB 2 _ rfl
      have k3 : w1.cell? ⟨w.heap.size, 3, none⟩ = some (.int .i64 day) := HK.out w1 hB 3 _ rfl
      have k4 : w1.cell? ⟨w.heap.size, 4, none⟩ = some (.slice sa sn sc) := HK.out w1 hB 4 _ rfl
      have k5 : w1.cell? ⟨w.heap.size, 5, none⟩ = some (.slice ta tn tc) := HK.out w1 hB 5 _ rfl
      have k6 : w1.cell? ⟨w.heap.size, 6, none⟩ = some (.slice na nn nc) := HK.out w1 hB 6 _ rfl
      go_simp
      exact hK _ _ rfl (Below.refl _ _)
    refine And.intro (fun w1 vals hB hd K hK => ?_) ?_
    · clear hd
      simp only [putAll, Act.put, List.setIfInBounds_toArray, List.set_cons_zero, List.set_cons_succ] at hK ⊢
      obtain ⟨ve, hve⟩ : ∃ f : Nat → Value, f = vals := ⟨_, rfl⟩
      rw [← hve] at hK  ⊢
      clear hve
      refine gwp_none rfl ?_
      go_simp
      exact hK _ _ rfl (Below.refl _ _)
    refine And.intro (fun w1 vals hB hd K hK => ?_) ?_
    · have e1 : vals 1 = .pointer (some ⟨w.heap.size, 5, none⟩) := told_at (hd 1 rfl) rfl
      clear hd
      simp only [putAll, Act.put, List.setIfInBounds_toArray, List.set_cons_zero, List.set_cons_succ] at hK ⊢
      simp only [e1] at hK ⊢
      obtain ⟨ve, hve⟩ : ∃ f : Nat → Value, f = vals := ⟨_, rfl⟩
      rw [← hve] at hK  ⊢
      clear e1 hve
      refine gwp_none rfl ?_
      have k5 : w1.cell? ⟨w.heap.size, 5, none⟩ = some (.slice ta tn tc) := HK.out w1 hB 5 _ rfl
      go_simp
      exact hK _ _ rfl (Below.refl _ _)
    refine And.intro (fun w1 vals hB hd K hK => ?_) ?_
    · have e2 : vals 2 = .slice ta tn tc := told_at (hd 2 rfl) rfl
      clear hd
      simp only [putAll, Act.put, List.setIfInBounds_toArray, List.set_cons_zero, List.set_cons_succ] at hK ⊢
      simp only [e2] at hK ⊢
      obtain ⟨ve, hve⟩ : ∃ f : Nat → Value, f = vals := ⟨_, rfl⟩
      rw [← hve] at hK  ⊢
      clear e2 hve
      refine gwp_none rfl ?_
      go_simp
      refine (HRO.out w1 (HB.out.trans (hB.mono HB.out.size))).mono ?_
      rintro e w2 ⟨rfl, hb⟩
      exact hK _ _ rfl hb
    refine And.intro (fun w1 vals hB hd K hK => ?_) ?_
    · have e0 : vals 0 = .agg #[.int .i64 rid, .string name, .int .i64 len, .int .i64 day, .slice sa sn sc, .slice ta tn tc, .slice na nn nc] := told_at (hd 0 rfl) rfl
      have e3 : vals 3 = .int .i64 rt := told_at (hd 3 rfl) rfl
      clear hd
      simp only [putAll, Act.put, List.setIfInBounds_toArray, List.set_cons_zero, List.set_cons_succ] at hK ⊢
      simp only [e0, e3] at hK ⊢
      obtain ⟨ve, hve⟩ : ∃ f : Nat → Value, f = vals := ⟨_, rfl⟩
      rw [← hve] at hK  ⊢
      clear e0 e3 hve
      refine gwp_none rfl ?_
      go_simp
      refine (HOF.out w1 (HB.out.trans (hB.mono HB.out.size))).mono ?_
      rintro e w2 ⟨v, rfl, hO, hb⟩
      exact hK _ _ (own_base hO hB.size) hb
    refine And.intro (fun w1 vals hB hd K hK => ?_) ?_
    · have p4 := told_at (t := Told.such (fun v W => OwnI W W0.heap.size v ids) (fun v W W' h hb => h.on hb)) (hd 4 rfl) rfl
      simp only [Told.holds] at p4
      clear hd
      obtain ⟨x4, hx4⟩ : ∃ x, vals 4 = x := ⟨_, rfl⟩
      rw [hx4] at p4
      simp only [putAll, Act.put, List.setIfInBounds_toArray, List.set_cons_zero, List.set_cons_succ] at hK ⊢
      simp only [hx4] at hK ⊢
      obtain ⟨ve, hve⟩ : ∃ f : Nat → Value, f = vals := ⟨_, rfl⟩
      rw [← hve] at hK  ⊢
      clear hx4 hve
      refine gwp_none rfl ?_
      obtain ⟨A3, c3, rfl, _, _, _⟩ := OwnI.form p4
      go_simp
      exact hK _ _ rfl (Below.refl _ _)
    refine And.intro (fun w1 vals hB hd K hK => ?_) ?_
    · clear hd
      simp only [putAll, Act.put, List.setIfInBounds_toArray, List.set_cons_zero, List.set_cons_succ] at hK ⊢
      obtain ⟨ve, hve⟩ : ∃ f : Nat → Value, f = vals := ⟨_, rfl⟩
      rw [← hve] at hK  ⊢
      clear hve
      refine gwp_none rfl ?_
      go_simp
      exact hK _ _ rfl (Below.refl _ _)
    exact trivial
  · intro w1 vals hB hd
    have p4 := told_at (t := Told.such (fun v W => OwnI W W0.heap.size v ids) (fun v W W' h hb => h.on hb)) (hd 4 (by decide)) rfl
    simp only [Told.holds] at p4
    have e5 : vals 5 = .int .i64 (ids.length : Int) := told_at (hd 5 (by decide)) rfl
    have e6 : vals 6 = .int .i64 0 := told_at (hd 6 (by decide)) rfl
    obtain ⟨x4, hx4⟩ : ∃ x, vals 4 = x := ⟨_, rfl⟩
    rw [hx4] at p4
    clear hd
    simp only [putAll, Act.put, List.setIfInBounds_toArray, List.set_cons_zero, List.set_cons_succ]
    simp only [hx4, e5, e6]
    obtain ⟨ve, hve⟩ : ∃ f : Nat → Value, f = vals := ⟨_, rfl⟩
    rw [← hve]
    clear hx4 e5 e6 hve
    have HO7 := Lib.hid p4
    have HB1 : Hid (Below W0.heap.size W0 w1) := hB
    obtain ⟨A7, c7, hv7, h7a, h7b, h7r⟩ := OwnI.form HO7.out
    subst hv7
    have HIR := Lib.hid h7r
    clear hB p4 h7a h7b h7r
    go_wp2_with fail
    go_loopw [5, 7, 14] (fun v5 v7 v14 wr => ∃ i : Nat, i ≤ ids.length ∧ v14 = .int .i64 i ∧ Hid (OwnI wr w1.heap.size v5 ((ids.take i).filter fun x => decide (id ∈ chainL l x K))) ∧ Hid (Below w1.heap.size w1 wr)) (fun _ _ v14 _ => ids.length - (intOf v14).toNat)
    case atStart => exact ⟨0, Nat.zero_le _, rfl, OwnI.nil _ _, Below.refl _ _⟩
    case round =>
      obtain ⟨i, hi, rfl, HO, HB2⟩ := hrel
      obtain ⟨w2, hw2⟩ : ∃ w2, wr = w2 := ⟨_, rfl⟩
      rw [hw2] at HO HB2 ⊢
      clear hw2
      have HB12 : Hid (Below W0.heap.size W0 w2) := HB1.out.trans (HB2.out.mono HB1.out.size)
      by_cases hlt : i < ids.length
      · have hiz : (i : Int) < (ids.length : Int) := by omega
        have hiA : (0 : Int) ≤ (i : Int) := by omega
        obtain ⟨bd, x, hA, hbb, hidx, hc⟩ := HIR.out.at_ hlt
        subst hA
        have hcw : w2.cell? (bd.add i) = some (.int .i64 x) := (HB2.out.cell (by rw [block_of_add]; exact hbb)).trans hc
        have HLT := Lib.hid hlt
        have HNX := Lib.hid (filter_next (p := fun x => decide (id ∈ chainL l x K)) hidx)
        have hpt : ((ids.take i).filter fun x => decide (id ∈ chainL l x K)).length ≤ 1000000 := by
          have h1 := List.length_filter_le (fun x => decide (id ∈ chainL l x K)) (ids.take i)
          rw [List.length_take] at h1
          omega
        have HCC := Lib.hid (HCH.out w2 (HB.out.trans (HB12.out.mono HB.out.size)) x)
        obtain ⟨ll, hll⟩ : ∃ ll, ((ids.take i).filter fun x => decide (id ∈ chainL l x K)) = ll := ⟨_, rfl⟩
        rw [hll] at HNX hpt HO
        obtain ⟨ch, hch⟩ : ∃ ch, chainL l x K = ch := ⟨_, rfl⟩
        have HNX2 : Hid ((ids.take (i + 1)).filter (fun x => decide (id ∈ chainL l x K)) = ll ++ if decide (id ∈ ch) = true then [x] else []) := by rw [← hch]; exact HNX.out
        rw [hch] at HCC
        have hsz := HB2.out.size
        clear hc hidx hll HNX hch
        have k0 : w2.cell? ⟨w.heap.size, 0, none⟩ = some (.int .i64 rid) := HK.out w2 HB12.out 0 _ rfl
        have k1 : w2.cell? ⟨w.heap.size, 1, none⟩ = some (.string name) := HK.out w2 HB12.out 1 _ rfl
        have k2 : w2.cell? ⟨w.heap.size, 2, none⟩ = some (.int .i64 len) := HK.out w2 HB12.out 2 _ rfl
        have k3 : w2.cell? ⟨w.heap.size, 3, none⟩ = some (.int .i64 day) := HK.out w2 HB12.out 3 _ rfl
        have k4 : w2.cell? ⟨w.heap.size, 4, none⟩ = some (.slice sa sn sc) := HK.out w2 HB12.out 4 _ rfl
        have k5 : w2.cell? ⟨w.heap.size, 5, none⟩ = some (.slice ta tn tc) := HK.out w2 HB12.out 5 _ rfl
        have k6 : w2.cell? ⟨w.heap.size, 6, none⟩ = some (.slice na nn nc) := HK.out w2 HB12.out 6 _ rfl
        go_wp2_with fail
        refine HCC.out.mono ?_
        rintro e w3 ⟨v, rfl, hO3, hb3⟩
        have HAS := Lib.hid (has_any w2.heap.size v ch id w3 hO3)
        have HOO := Lib.hid (HO.out.on hb3)
        have HB3 : Hid (Below w1.heap.size w1 w3) := HB2.out.trans (hb3.mono hsz)
        have hs3 := HB3.out.size
        clear hO3 hb3 HO k0 k1 k2 k3 k4 k5 k6 hcw
        obtain ⟨bb, hbb⟩ : ∃ bb, decide (id ∈ ch) = bb := ⟨_, rfl⟩
        rw [hbb] at HAS HNX2
        clear hbb
        cases bb with
        | false =>
          go_wp2_with (with_reducible refine HAS.out.mono ?_; rintro e w4 ⟨rfl, rfl⟩)
          go_roundw
          case rel =>
            (repeat apply Exists.intro)
            refine ⟨?_, rfl⟩
            exact ⟨i + 1, HLT.out, by go_num, (by rw [HNX2.out, if_neg (by simp), List.append_nil]; exact HOO), HB3⟩
          case measure => have := HLT.out; simp [intOf]; omega
        | true =>
          go_wp2_with (first | (with_reducible refine HAS.out.mono ?_; rintro e w4 ⟨rfl, rfl⟩) | (at_builtin; refine wpList_app1 rfl (.tmp 23) (.tmp 25) 32 rfl w1.heap.size 3 8 (.int .i64 0) info_int rfl Tryz.underlying32 rfl HOO.out rfl rfl (by omega) (by omega) hs3 ?_; rintro v5 w4 hown5 hb5 hs5 hk5; clear hk5))
          have HO4 : Hid (OwnI w4 w1.heap.size v5 (ll ++ [x])) := own_i hown5
          have HB4 : Hid (Below w1.heap.size w1 w4) := HB3.out.trans hb5
          clear hown5 hb5
          go_wp2
          go_roundw
          case rel =>
            (repeat apply Exists.intro)
            refine ⟨?_, rfl⟩
            exact ⟨i + 1, HLT.out, by go_num, (by rw [HNX2.out, if_pos (by simp)]; exact HO4), HB4⟩
          case measure => have := HLT.out; simp [intOf]; omega
      · obtain rfl : i = ids.length := by omega
        have hiz : ¬ (ids.length : Int) < (ids.length : Int) := by omega
        rw [List.take_length] at HO
        go_wp2
        go_ret
        exact ⟨_, rfl, own_base HO.out (by have := HB1.out.size; have := HB.out.size; omega), HB.out.trans (HB12.out.mono HB.out.size)⟩
end Go.Proofs.YthcabnfcgjnlnaaGreatDoor
/-
  The reference's small functions of glosses: role.
-/
namespace Go.Proofs.YthcabnfcgjnlnaaGreatDoor
open Go.RowKit Ru Lay
attribute [local go_sem ↓] Go.wp_at_zero Go.wp_at_succ
set_option linter.unusedVariables false
set_option linter.unusedSimpArgs false

def readyB (T : List Ti) : Bool := decide (0 ≤ roleT T 2) && (decide (0 ≤ roleT T 3) && decide (0 ≤ roleT T 4))
end Go.Proofs.YthcabnfcgjnlnaaGreatDoor
/-
  The reference's glosses: isWord.
-/
namespace Go.Proofs.YthcabnfcgjnlnaaGreatDoor
open Go.RowKit Ru Lay
attribute [local go_sem ↓] Go.wp_at_zero Go.wp_at_succ
set_option linter.unusedVariables false
set_option linter.unusedSimpArgs false

/-- Whether a number is that of a word. -/
def wordB (T : List Ti) (l : List Nt) (id : Int) : Bool := (getN l id).isSome && (((getN l id).getD nt0).tier == roleT T 2)
end Go.Proofs.YthcabnfcgjnlnaaGreatDoor
