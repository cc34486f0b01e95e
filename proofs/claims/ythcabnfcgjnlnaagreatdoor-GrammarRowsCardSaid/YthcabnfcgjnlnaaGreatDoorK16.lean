import Derived.Test.YthcabnfcgjnlnaaGreatDoorK15
/-
  gloss.Ready, gloss.get.
-/
namespace Go.Proofs.YthcabnfcgjnlnaaGreatDoor
open Go.RowKit Ru Lay
attribute [local go_sem ↓] Go.wp_at_zero Go.wp_at_succ
set_option linter.unusedVariables false
set_option linter.unusedSimpArgs false

set_option maxHeartbeats 2000000 in
set_option maxRecDepth 100000 in
theorem readyP_any (d : Dv) (T : List Ti) (w : World) (hT : TiersR w w.heap.size d.ta d.tn T) (htn : d.tn ≤ 1000000) :
    Calls Tryz.prog 60 #[docV d] w fun e w' => e = .returned (.bool (readyB T)) ∧ Below w.heap.size w w' := by
  have HF := Lib.hid fun (W : World) (hW : Below w.heap.size w W) => find_any d T W (hT.on hW) htn
  clear hT
  unfold docV at HF
  unfold docV
  obtain ⟨rid, name, len, day, sa, sn, sc, ta, tn, tc, na, nn, nc⟩ := d
  simp only at HF htn ⊢
  obtain ⟨W0, hW0, hz0, hB0, hK0⟩ := doc_cells w rid name len day sa ta na sn sc tn tc nn nc
  have HB := Lib.hid hB0
  have HK := Lib.hid hK0
  clear hB0 hK0
  unfold readyB
  obtain ⟨a2, h2⟩ : ∃ a, roleT T 2 = a := ⟨_, rfl⟩
  obtain ⟨a3, h3⟩ : ∃ a, roleT T 3 = a := ⟨_, rfl⟩
  obtain ⟨a4, h4⟩ : ∃ a, roleT T 4 = a := ⟨_, rfl⟩
  rw [h2, h3, h4] at HF
  rw [h2, h3, h4]
  clear h2 h3 h4
  have k0 : W0.cell? ⟨w.heap.size, 0, none⟩ = some (.int .i64 rid) := HK.out W0 (Below.refl _ _) 0 _ rfl
  have k1 : W0.cell? ⟨w.heap.size, 1, none⟩ = some (.string name) := HK.out W0 (Below.refl _ _) 1 _ rfl
  have k2 : W0.cell? ⟨w.heap.size, 2, none⟩ = some (.int .i64 len) := HK.out W0 (Below.refl _ _) 2 _ rfl
  have k3 : W0.cell? ⟨w.heap.size, 3, none⟩ = some (.int .i64 day) := HK.out W0 (Below.refl _ _) 3 _ rfl
  have k4 : W0.cell? ⟨w.heap.size, 4, none⟩ = some (.slice sa sn sc) := HK.out W0 (Below.refl _ _) 4 _ rfl
  have k5 : W0.cell? ⟨w.heap.size, 5, none⟩ = some (.slice ta tn tc) := HK.out W0 (Below.refl _ _) 5 _ rfl
  have k6 : W0.cell? ⟨w.heap.size, 6, none⟩ = some (.slice na nn nc) := HK.out W0 (Below.refl _ _) 6 _ rfl
  have HFF := Lib.hid (HF.out W0 HB.out)
  go_enter Tryz.func60, Tryz.ntmps60
  go_upto_region 1 with fail
  (try rw [hW0])
  clear hW0
  go_wp2_with fail
  refine HFF.out.mono ?_
  rintro e w1 ⟨rfl, hb1⟩
  have HB1 : Hid (Below W0.heap.size W0 (w1.alloc (.cells #[.int .i64 a2, .int .i64 a3, .int .i64 a4] 91))) := hb1.alloc hb1.size _
  clear hb1 k0 k1 k2 k3 k4 k5 k6 HFF HF
  by_cases g2 : 0 ≤ a2
  · have c2' : decide (0 ≤ a2) = true := decide_eq_true g2
    clear g2
    by_cases g3 : 0 ≤ a3
    · have c3' : decide (0 ≤ a3) = true := decide_eq_true g3
      clear g3
      go_wp2
      go_ret
      exact ⟨by simp [c2', c3'], HB.out.trans (HB1.out.mono HB.out.size)⟩
    · have c3' : decide (0 ≤ a3) = false := decide_eq_false g3
      clear g3
      go_wp2
      go_ret
      exact ⟨by simp [c2', c3'], HB.out.trans (HB1.out.mono HB.out.size)⟩
  · have c2' : decide (0 ≤ a2) = false := decide_eq_false g2
    clear g2
    go_wp2
    go_ret
    exact ⟨by simp [c2'], HB.out.trans (HB1.out.mono HB.out.size)⟩
set_option maxHeartbeats 4000000 in
set_option maxRecDepth 100000 in
theorem wordP_any (d : Dv) (T : List Ti) (l : List Nt) (id : Int) (w : World) (hT : TiersR w w.heap.size d.ta d.tn T) (hl : NotesR w w.heap.size d.na d.nn l) (hn : d.nn ≤ 9223372036854775807) (htn : d.tn ≤ 1000000) :
    Calls Tryz.prog 59 #[docV d, .int .i64 id] w fun e w' => e = .returned (.tuple #[noteV ((getN l id).getD nt0), .bool (wordB T l id)]) ∧ Below w.heap.size w w' := by
  have HF := Lib.hid fun (W : World) (hW : Below w.heap.size w W) => find_any d T W (hT.on hW) htn
  have HG := Lib.hid fun (W : World) (hW : Below w.heap.size w W) => get_any d l id W (hl.on hW) hn
  clear hT hl
  unfold docV at HF HG
  unfold docV
  obtain ⟨rid, name, len, day, sa, sn, sc, ta, tn, tc, na, nn, nc⟩ := d
  simp only at HF HG htn hn ⊢
  unfold wordB noteV
  unfold getV noteV at HG
  obtain ⟨y, hy⟩ : ∃ y, (getN l id).getD nt0 = y := ⟨_, rfl⟩
  obtain ⟨bs, hbs⟩ : ∃ bs, (getN l id).isSome = bs := ⟨_, rfl⟩
  obtain ⟨a2, h2⟩ : ∃ a, roleT T 2 = a := ⟨_, rfl⟩
  obtain ⟨a3, h3⟩ : ∃ a, roleT T 3 = a := ⟨_, rfl⟩
  obtain ⟨a4, h4⟩ : ∃ a, roleT T 4 = a := ⟨_, rfl⟩
  rw [h2, h3, h4] at HF
  rw [hy, hbs] at HG
  rw [hy, hbs, h2]
  clear h2 h3 h4 hy hbs
  go_enter Tryz.func59, Tryz.ntmps59
  go_upto_region 1 with fail
  obtain ⟨p, hp⟩ : ∃ p, w.heap.size = p := ⟨_, rfl⟩
  obtain ⟨W0, hW0⟩ : ∃ W0, ((w.alloc (.cells #[.int .i64 rid, .string name, .int .i64 len, .int .i64 day, .slice sa sn sc, .slice ta tn tc, .slice na nn nc] 38)).alloc (.cells #[.int .i64 0, .int .i64 0, .int .i64 0, .int .i64 0, .int .i64 0, .int .i64 0, .string ⟨#[]⟩] 58)) = W0 := ⟨_, rfl⟩
  have hz0 : W0.heap.size = p + 1 + 1 := by rw [← hW0, ← hp]; simp
  have HB : Hid (Below w.heap.size w W0) := by rw [← hW0]; exact ((Below.refl _ w).alloc (Nat.le_refl _) _).alloc (by simp) _
  have HTH0 : Hid (W0.there (p + 1) 0 7) := by
    have h := there_new (w.alloc (.cells #[.int .i64 rid, .string name, .int .i64 len, .int .i64 day, .slice sa sn sc, .slice ta tn tc, .slice na nn nc] 38)) #[.int .i64 0, .int .i64 0, .int .i64 0, .int .i64 0, .int .i64 0, .int .i64 0, .string ⟨#[]⟩] 58
    rw [hW0] at h
    show W0.there _ _ _
    rw [← hp]
    simpa using h
  have HD0 : Hid (∀ W, Below W0.heap.size W0 W → W.rangeAt p 0 [.int .i64 rid, .string name, .int .i64 len, .int .i64 day, .slice sa sn sc, .slice ta tn tc, .slice na nn nc]) := fun W hW => by
    refine range_below hW (by omega) ?_
    intro j v hv
    rw [← hW0, World.cell?_alloc_lt _ _ _ (by rw [← hp]; simp), ← hp, Nat.zero_add, World.cell?_alloc_new w _ _ j, ← hv, ← List.getElem?_toArray]
  have HGG := Lib.hid (HG.out W0 HB.out)
  rw [hW0]
  rw [hp] at HB HF
  simp only [hp]
  clear hW0 HG
  have hk := HD0.out W0 (Below.refl _ _)
  have k0 : W0.cell? ⟨p, 0, none⟩ = some (.int .i64 rid) := hk 0 _ rfl
  have k1 : W0.cell? ⟨p, 1, none⟩ = some (.string name) := hk 1 _ rfl
  have k2 : W0.cell? ⟨p, 2, none⟩ = some (.int .i64 len) := hk 2 _ rfl
  have k3 : W0.cell? ⟨p, 3, none⟩ = some (.int .i64 day) := hk 3 _ rfl
  have k4 : W0.cell? ⟨p, 4, none⟩ = some (.slice sa sn sc) := hk 4 _ rfl
  have k5 : W0.cell? ⟨p, 5, none⟩ = some (.slice ta tn tc) := hk 5 _ rfl
  have k6 : W0.cell? ⟨p, 6, none⟩ = some (.slice na nn nc) := hk 6 _ rfl
  clear hk
  go_wp2_with fail
  refine HGG.out.mono ?_
  rintro e wg ⟨rfl, hbg⟩
  obtain ⟨b, hb⟩ : ∃ b, wg.heap.size = b := ⟨_, rfl⟩
  obtain ⟨WA, hWA⟩ : ∃ WA, wg.alloc (.cells #[.int .i64 y.nid, .int .i64 y.tier, .int .i64 y.parent, .int .i64 y.at1, .int .i64 y.at2, .int .i64 y.rank, .string y.text] 58) = WA := ⟨_, rfl⟩
  have hszg := hbg.size
  have hzA : WA.heap.size = b + 1 := by rw [← hWA, ← hb]; simp
  have HBA : Hid (Below W0.heap.size W0 WA) := by rw [← hWA]; exact hbg.alloc hbg.size _
  have HTX : Hid (WA.there (p + 1) 0 7) := there_below HBA.out (by omega) HTH0.out
  have HD : Hid (∀ W, BelowX (p + 1) WA W → W.rangeAt p 0 [.int .i64 rid, .string name, .int .i64 len, .int .i64 day, .slice sa sn sc, .slice ta tn tc, .slice na nn nc]) := fun W hW j v hv => by
    rw [hW.cell (p := ⟨p, 0 + j, none⟩) (by show p < _; omega) (by show p ≠ p + 1; omega)]
    exact HD0.out WA HBA.out j v hv
  have HNT : Hid (∀ W, BelowX (p + 1) WA W → W.rangeAt b 0 [.int .i64 y.nid, .int .i64 y.tier, .int .i64 y.parent, .int .i64 y.at1, .int .i64 y.at2, .int .i64 y.rank, .string y.text]) := fun W hW j v hv => by
    rw [hW.cell (p := ⟨b, 0 + j, none⟩) (by show b < _; omega) (by show b ≠ p + 1; omega), ← hWA, ← hb, Nat.zero_add, World.cell?_alloc_new wg _ _ j, ← hv, ← List.getElem?_toArray]
  have HWB : Hid (Below p w WA) := HB.out.trans (HBA.out.mono (by omega))
  have HFX : Hid (∀ W, BelowX (p + 1) WA W → Calls Tryz.prog 61 #[.agg #[.int .i64 rid, .string name, .int .i64 len, .int .i64 day, .slice sa sn sc, .slice ta tn tc, .slice na nn nc]] W fun e w' => e = .returned (.agg #[.int .i64 a2, .int .i64 a3, .int .i64 a4]) ∧ Below W.heap.size W w') := fun W hW => HF.out W (HWB.out.trans (hW.below (by omega) (by omega)))
  have hbp : p + 2 ≤ b := by omega
  clear k0 k1 k2 k3 k4 k5 k6 HGG hbg hszg HF HD0 HTH0
  go_upto_region 2 with fail
  (try rw [hWA])
  (try rw [hb])
  clear hWA hb
  cases bs with
  | true =>
    refine wp_region_toldW (q := (p + 1)) 10 [ToldX.is (.agg #[.int .i64 y.nid, .int .i64 y.tier, .int .i64 y.parent, .int .i64 y.at1, .int .i64 y.at2, .int .i64 y.rank, .string y.text]), ToldX.is (.bool true), ToldX.is (.bool true), ToldX.is (.pointer (some ⟨b, 1, none⟩)), ToldX.is (.int .i64 y.tier), ToldX.is (.agg #[.int .i64 rid, .string name, .int .i64 len, .int .i64 day, .slice sa sn sc, .slice ta tn tc, .slice na nn nc]), ToldX.is (.agg #[.int .i64 a2, .int .i64 a3, .int .i64 a4]), ToldX.is (.int .i64 a2), ToldX.is (.bool (y.tier == a2)), ToldX.is (.bool (y.tier == a2)), ToldX.put (fun w => (p + 1) < w.heap.size ∧ w.rangeAt (p + 1) 0 [.int .i64 y.nid, .int .i64 y.tier, .int .i64 y.parent, .int .i64 y.at1, .int .i64 y.at2, .int .i64 y.rank, .string y.text]) (fun w w' ⟨h0, h1⟩ hb => ⟨Nat.lt_of_lt_of_le h0 hb.size, range_below hb h0 h1⟩), ToldX.is (.bool (y.tier == a2))] (by kernel_rfl) (by kernel_rfl) rfl ?_ ?_
    · refine And.intro (fun w1 vals hB hd a1 ha1 K hK => ?_) ?_
      · clear hd
        subst ha1
        simp only [putAll, Act.put, List.setIfInBounds_toArray, List.set_cons_zero, List.set_cons_succ] at hK ⊢
        obtain ⟨ve, hve⟩ : ∃ f : Nat → Value, f = vals := ⟨_, rfl⟩
        rw [← hve] at hK  ⊢
        clear hve
        refine gwp_none rfl ?_
        refine wp_load_mid 58 (.tmp 6) rfl b 0 rfl [.int .i64 y.nid, .int .i64 y.tier, .int .i64 y.parent, .int .i64 y.at1, .int .i64 y.at2, .int .i64 y.rank, .string y.text] _ (HNT.out w1 hB) Tryz.underlying58 rfl (by kernel_rfl) ?_
        simp only [Act.put, List.setIfInBounds_toArray, List.set_cons_zero, List.set_cons_succ]
        exact hK _ _ rfl (.inl (Below.refl _ _))
      refine And.intro (fun w1 vals hB hd a1 ha1 K hK => ?_) ?_
      · clear hd
        subst ha1
        simp only [putAll, Act.put, List.setIfInBounds_toArray, List.set_cons_zero, List.set_cons_succ] at hK ⊢
        obtain ⟨ve, hve⟩ : ∃ f : Nat → Value, f = vals := ⟨_, rfl⟩
        rw [← hve] at hK  ⊢
        clear hve
        refine gwp_none rfl ?_
        go_simp
        exact hK _ _ rfl (.inl (Below.refl _ _))
      refine And.intro (fun w1 vals hB hd a1 ha1 K hK => ?_) ?_
      · have e1 : vals 1 = .bool true := toldX_at (hd 1 rfl) rfl
        clear hd
        subst ha1
        simp only [putAll, Act.put, List.setIfInBounds_toArray, List.set_cons_zero, List.set_cons_succ] at hK ⊢
        simp only [e1] at hK ⊢
        obtain ⟨ve, hve⟩ : ∃ f : Nat → Value, f = vals := ⟨_, rfl⟩
        rw [← hve] at hK  ⊢
        clear e1 hve
        refine gwp_none rfl ?_
        go_simp
        exact hK _ _ rfl (.inl (Below.refl _ _))
      refine And.intro (fun w1 vals hB hd a1 ha1 K hK => ?_) ?_
      · have g2 : vals 2 = .bool true := toldX_at (hd 2 rfl) rfl
        clear hd
        subst ha1
        simp only [putAll, Act.put, List.setIfInBounds_toArray, List.set_cons_zero, List.set_cons_succ] at hK ⊢
        obtain ⟨ve, hve⟩ : ∃ f : Nat → Value, f = vals := ⟨_, rfl⟩
        rw [← hve] at hK g2 ⊢
        clear hve
        refine gwp_some rfl g2 ?_
        clear g2
        go_simp
        exact hK _ _ rfl (.inl (Below.refl _ _))
      refine And.intro (fun w1 vals hB hd a1 ha1 K hK => ?_) ?_
      · have e3 : vals 3 = .pointer (some ⟨b, 1, none⟩) := toldX_at (hd 3 rfl) rfl
        have g2 : vals 2 = .bool true := toldX_at (hd 2 rfl) rfl
        clear hd
        subst ha1
        simp only [putAll, Act.put, List.setIfInBounds_toArray, List.set_cons_zero, List.set_cons_succ] at hK ⊢
        simp only [e3] at hK ⊢
        obtain ⟨ve, hve⟩ : ∃ f : Nat → Value, f = vals := ⟨_, rfl⟩
        rw [← hve] at hK g2 ⊢
        clear e3 hve
        refine gwp_some rfl g2 ?_
        clear g2
        have c1 : w1.cell? ⟨b, 1, none⟩ = some (.int .i64 y.tier) := HNT.out w1 hB 1 _ rfl
        go_simp
        exact hK _ _ rfl (.inl (Below.refl _ _))
      refine And.intro (fun w1 vals hB hd a1 ha1 K hK => ?_) ?_
      · have g2 : vals 2 = .bool true := toldX_at (hd 2 rfl) rfl
        clear hd
        subst ha1
        simp only [putAll, Act.put, List.setIfInBounds_toArray, List.set_cons_zero, List.set_cons_succ] at hK ⊢
        obtain ⟨ve, hve⟩ : ∃ f : Nat → Value, f = vals := ⟨_, rfl⟩
        rw [← hve] at hK g2 ⊢
        clear hve
        refine gwp_some rfl g2 ?_
        clear g2
        refine wp_load_mid 38 (.tmp 2) rfl p 0 rfl [.int .i64 rid, .string name, .int .i64 len, .int .i64 day, .slice sa sn sc, .slice ta tn tc, .slice na nn nc] _ (HD.out w1 hB) Tryz.underlying38 rfl (by kernel_rfl) ?_
        simp only [Act.put, List.setIfInBounds_toArray, List.set_cons_zero, List.set_cons_succ]
        exact hK _ _ rfl (.inl (Below.refl _ _))
      refine And.intro (fun w1 vals hB hd a1 ha1 K hK => ?_) ?_
      · have e5 : vals 5 = .agg #[.int .i64 rid, .string name, .int .i64 len, .int .i64 day, .slice sa sn sc, .slice ta tn tc, .slice na nn nc] := toldX_at (hd 5 rfl) rfl
        have g2 : vals 2 = .bool true := toldX_at (hd 2 rfl) rfl
        clear hd
        subst ha1
        simp only [putAll, Act.put, List.setIfInBounds_toArray, List.set_cons_zero, List.set_cons_succ] at hK ⊢
        simp only [e5] at hK ⊢
        obtain ⟨ve, hve⟩ : ∃ f : Nat → Value, f = vals := ⟨_, rfl⟩
        rw [← hve] at hK g2 ⊢
        clear e5 hve
        refine gwp_some rfl g2 ?_
        clear g2
        go_simp
        refine (HFX.out w1 hB).mono ?_
        rintro e w4 ⟨rfl, hb4⟩
        exact hK _ _ rfl (.inl hb4)
      refine And.intro (fun w1 vals hB hd a1 ha1 K hK => ?_) ?_
      · have e6 : vals 6 = .agg #[.int .i64 a2, .int .i64 a3, .int .i64 a4] := toldX_at (hd 6 rfl) rfl
        have g2 : vals 2 = .bool true := toldX_at (hd 2 rfl) rfl
        clear hd
        subst ha1
        simp only [putAll, Act.put, List.setIfInBounds_toArray, List.set_cons_zero, List.set_cons_succ] at hK ⊢
        simp only [e6] at hK ⊢
        obtain ⟨ve, hve⟩ : ∃ f : Nat → Value, f = vals := ⟨_, rfl⟩
        rw [← hve] at hK g2 ⊢
        clear e6 hve
        refine gwp_some rfl g2 ?_
        clear g2
        go_simp
        exact hK _ _ rfl (.inl (Below.refl _ _))
      refine And.intro (fun w1 vals hB hd a1 ha1 K hK => ?_) ?_
      · have e4 : vals 4 = .int .i64 y.tier := toldX_at (hd 4 rfl) rfl
        have e7 : vals 7 = .int .i64 a2 := toldX_at (hd 7 rfl) rfl
        have g2 : vals 2 = .bool true := toldX_at (hd 2 rfl) rfl
        clear hd
        subst ha1
        simp only [putAll, Act.put, List.setIfInBounds_toArray, List.set_cons_zero, List.set_cons_succ] at hK ⊢
        simp only [e4, e7] at hK ⊢
        obtain ⟨ve, hve⟩ : ∃ f : Nat → Value, f = vals := ⟨_, rfl⟩
        rw [← hve] at hK g2 ⊢
        clear e4 e7 hve
        refine gwp_some rfl g2 ?_
        clear g2
        go_simp
        exact hK _ _ rfl (.inl (Below.refl _ _))
      refine And.intro (fun w1 vals hB hd a1 ha1 K hK => ?_) ?_
      · have e2 : vals 2 = .bool true := toldX_at (hd 2 rfl) rfl
        have e8 : vals 8 = .bool (y.tier == a2) := toldX_at (hd 8 rfl) rfl
        clear hd
        subst ha1
        simp only [putAll, Act.put, List.setIfInBounds_toArray, List.set_cons_zero, List.set_cons_succ] at hK ⊢
        simp only [e2, e8] at hK ⊢
        obtain ⟨ve, hve⟩ : ∃ f : Nat → Value, f = vals := ⟨_, rfl⟩
        rw [← hve] at hK  ⊢
        clear e2 e8 hve
        refine gwp_none rfl ?_
        go_simp
        exact hK _ _ rfl (.inl (Below.refl _ _))
      refine And.intro (fun w1 vals hB hd a1 ha1 K hK => ?_) ?_
      · have e0 : vals 0 = .agg #[.int .i64 y.nid, .int .i64 y.tier, .int .i64 y.parent, .int .i64 y.at1, .int .i64 y.at2, .int .i64 y.rank, .string y.text] := toldX_at (hd 0 rfl) rfl
        clear hd
        refine gwp_none rfl ?_
        have hth := hB.keep 7 HTX.out
        have hev1 : a1.eval (.tmp 4) = .pointer (some ⟨p + 1, 0, none⟩) := by rw [ha1]; exact (eval_old (by kernel_rfl)).trans rfl
        have hev2 : a1.eval (.tmp 14) = .agg #[.int .i64 y.nid, .int .i64 y.tier, .int .i64 y.parent, .int .i64 y.at1, .int .i64 y.at2, .int .i64 y.rank, .string y.text] := by rw [ha1]; exact (eval_slot (i := 0) (by kernel_rfl) (by kernel_rfl) rfl).trans e0
        clear ha1
        obtain ⟨wS, hwS⟩ : ∃ wS, w1.setCells (p + 1) 0 (#[.int .i64 y.nid, .int .i64 y.tier, .int .i64 y.parent, .int .i64 y.at1, .int .i64 y.at2, .int .i64 y.rank, .string y.text] : Array Value).toList = wS := ⟨_, rfl⟩
        have hX : BelowX (p + 1) w1 wS := by rw [← hwS]; exact BelowX.set _ _ _
        have hR : wS.rangeAt (p + 1) 0 [.int .i64 y.nid, .int .i64 y.tier, .int .i64 y.parent, .int .i64 y.at1, .int .i64 y.at2, .int .i64 y.rank, .string y.text] := by rw [← hwS]; exact World.rangeAt_setCells_same w1 (p + 1) 0 [.int .i64 y.nid, .int .i64 y.tier, .int .i64 y.parent, .int .i64 y.at1, .int .i64 y.at2, .int .i64 y.rank, .string y.text] hth
        have hSz : p + 1 < wS.heap.size := Nat.lt_of_lt_of_le (there_lt hth (by omega)) hX.size
        refine wp_store_mid 58 (.tmp 4) (.tmp 14) rfl (p + 1) 0 #[.int .i64 y.nid, .int .i64 y.tier, .int .i64 y.parent, .int .i64 y.at1, .int .i64 y.at2, .int .i64 y.rank, .string y.text] hev1 hev2 hth (by kernel_rfl) (by simp [Value.oneCell']) ?_
        rw [hwS]
        exact hK undef wS ⟨hSz, hR⟩ (.inr ⟨rfl, hX⟩)
      refine And.intro (fun w1 vals hB hd a1 ha1 K hK => ?_) ?_
      · have e9 : vals 9 = .bool (y.tier == a2) := toldX_at (hd 9 rfl) rfl
        clear hd
        subst ha1
        simp only [putAll, Act.put, List.setIfInBounds_toArray, List.set_cons_zero, List.set_cons_succ] at hK ⊢
        simp only [e9] at hK ⊢
        obtain ⟨ve, hve⟩ : ∃ f : Nat → Value, f = vals := ⟨_, rfl⟩
        rw [← hve] at hK  ⊢
        clear e9 hve
        refine gwp_none rfl ?_
        go_simp
        exact hK _ _ rfl (.inl (Below.refl _ _))
      exact trivial
    · intro w1 vals hB hd
      have p10 := toldX_at (t := ToldX.put (fun w => (p + 1) < w.heap.size ∧ w.rangeAt (p + 1) 0 [.int .i64 y.nid, .int .i64 y.tier, .int .i64 y.parent, .int .i64 y.at1, .int .i64 y.at2, .int .i64 y.rank, .string y.text]) (fun w w' ⟨h0, h1⟩ hb => ⟨Nat.lt_of_lt_of_le h0 hb.size, range_below hb h0 h1⟩)) (hd 10 (by decide)) rfl
      simp only [ToldX.holds] at p10
      have e11 : vals 11 = .bool (y.tier == a2) := toldX_at (hd 11 (by decide)) rfl
      clear hd
      simp only [putAll, Act.put, List.setIfInBounds_toArray, List.set_cons_zero, List.set_cons_succ]
      simp only [e11]
      obtain ⟨ve, hve⟩ : ∃ f : Nat → Value, f = vals := ⟨_, rfl⟩
      rw [← hve]
      clear e11 hve
      obtain ⟨h0, h1⟩ := p10
      have H1 := Lib.hid h1
      have HBE : Hid (Below p w w1) := HWB.out.trans (hB.below (by omega) (by omega))
      clear h0 h1
      go_wp2
      refine bodyPost_ret (v := .tuple #[.agg #[.int .i64 y.nid, .int .i64 y.tier, .int .i64 y.parent, .int .i64 y.at1, .int .i64 y.at2, .int .i64 y.rank, .string y.text], .bool (y.tier == a2)]) ?_ rfl ?_
      · exact results_cell_of rfl _ _ (p + 1) [.int .i64 y.nid, .int .i64 y.tier, .int .i64 y.parent, .int .i64 y.at1, .int .i64 y.at2, .int .i64 y.rank, .string y.text] _ _ rfl rfl H1.out Tryz.underlying58 rfl (by kernel_rfl)
      · exact ⟨by simp, by rw [hp]; exact HBE.out⟩
  | false =>
    refine wp_region_toldW (q := (p + 1)) 10 [ToldX.is (.agg #[.int .i64 y.nid, .int .i64 y.tier, .int .i64 y.parent, .int .i64 y.at1, .int .i64 y.at2, .int .i64 y.rank, .string y.text]), ToldX.is (.bool false), ToldX.is (.bool false), ToldX.is (undef), ToldX.is (undef), ToldX.is (undef), ToldX.is (undef), ToldX.is (undef), ToldX.is (undef), ToldX.is (.bool false), ToldX.put (fun w => (p + 1) < w.heap.size ∧ w.rangeAt (p + 1) 0 [.int .i64 y.nid, .int .i64 y.tier, .int .i64 y.parent, .int .i64 y.at1, .int .i64 y.at2, .int .i64 y.rank, .string y.text]) (fun w w' ⟨h0, h1⟩ hb => ⟨Nat.lt_of_lt_of_le h0 hb.size, range_below hb h0 h1⟩), ToldX.is (.bool false)] (by kernel_rfl) (by kernel_rfl) rfl ?_ ?_
    · refine And.intro (fun w1 vals hB hd a1 ha1 K hK => ?_) ?_
      · clear hd
        subst ha1
        simp only [putAll, Act.put, List.setIfInBounds_toArray, List.set_cons_zero, List.set_cons_succ] at hK ⊢
        obtain ⟨ve, hve⟩ : ∃ f : Nat → Value, f = vals := ⟨_, rfl⟩
        rw [← hve] at hK  ⊢
        clear hve
        refine gwp_none rfl ?_
        refine wp_load_mid 58 (.tmp 6) rfl b 0 rfl [.int .i64 y.nid, .int .i64 y.tier, .int .i64 y.parent, .int .i64 y.at1, .int .i64 y.at2, .int .i64 y.rank, .string y.text] _ (HNT.out w1 hB) Tryz.underlying58 rfl (by kernel_rfl) ?_
        simp only [Act.put, List.setIfInBounds_toArray, List.set_cons_zero, List.set_cons_succ]
        exact hK _ _ rfl (.inl (Below.refl _ _))
      refine And.intro (fun w1 vals hB hd a1 ha1 K hK => ?_) ?_
      · clear hd
        subst ha1
        simp only [putAll, Act.put, List.setIfInBounds_toArray, List.set_cons_zero, List.set_cons_succ] at hK ⊢
        obtain ⟨ve, hve⟩ : ∃ f : Nat → Value, f = vals := ⟨_, rfl⟩
        rw [← hve] at hK  ⊢
        clear hve
        refine gwp_none rfl ?_
        go_simp
        exact hK _ _ rfl (.inl (Below.refl _ _))
      refine And.intro (fun w1 vals hB hd a1 ha1 K hK => ?_) ?_
      · have e1 : vals 1 = .bool false := toldX_at (hd 1 rfl) rfl
        clear hd
        subst ha1
        simp only [putAll, Act.put, List.setIfInBounds_toArray, List.set_cons_zero, List.set_cons_succ] at hK ⊢
        simp only [e1] at hK ⊢
        obtain ⟨ve, hve⟩ : ∃ f : Nat → Value, f = vals := ⟨_, rfl⟩
        rw [← hve] at hK  ⊢
        clear e1 hve
        refine gwp_none rfl ?_
        go_simp
        exact hK _ _ rfl (.inl (Below.refl _ _))
      refine And.intro (fun w1 vals hB hd a1 ha1 K hK => ?_) ?_
      · have g2 : vals 2 = .bool false := toldX_at (hd 2 rfl) rfl
        clear hd
        subst ha1
        simp only [putAll, Act.put, List.setIfInBounds_toArray, List.set_cons_zero, List.set_cons_succ] at hK ⊢
        obtain ⟨ve, hve⟩ : ∃ f : Nat → Value, f = vals := ⟨_, rfl⟩
        rw [← hve] at hK g2 ⊢
        clear hve
        refine gwp_skip rfl g2 ?_
        simp only [Act.put, List.setIfInBounds_toArray, List.set_cons_zero, List.set_cons_succ]
        exact hK _ _ rfl (.inl (Below.refl _ _))
      refine And.intro (fun w1 vals hB hd a1 ha1 K hK => ?_) ?_
      · have e3 : vals 3 = undef := toldX_at (hd 3 rfl) rfl
        have g2 : vals 2 = .bool false := toldX_at (hd 2 rfl) rfl
        clear hd
        subst ha1
        simp only [putAll, Act.put, List.setIfInBounds_toArray, List.set_cons_zero, List.set_cons_succ] at hK ⊢
        simp only [e3] at hK ⊢
        obtain ⟨ve, hve⟩ : ∃ f : Nat → Value, f = vals := ⟨_, rfl⟩
        rw [← hve] at hK g2 ⊢
        clear e3 hve
        refine gwp_skip rfl g2 ?_
        simp only [Act.put, List.setIfInBounds_toArray, List.set_cons_zero, List.set_cons_succ]
        exact hK _ _ rfl (.inl (Below.refl _ _))
      refine And.intro (fun w1 vals hB hd a1 ha1 K hK => ?_) ?_
      · have g2 : vals 2 = .bool false := toldX_at (hd 2 rfl) rfl
        clear hd
        subst ha1
        simp only [putAll, Act.put, List.setIfInBounds_toArray, List.set_cons_zero, List.set_cons_succ] at hK ⊢
        obtain ⟨ve, hve⟩ : ∃ f : Nat → Value, f = vals := ⟨_, rfl⟩
        rw [← hve] at hK g2 ⊢
        clear hve
        refine gwp_skip rfl g2 ?_
        simp only [Act.put, List.setIfInBounds_toArray, List.set_cons_zero, List.set_cons_succ]
        exact hK _ _ rfl (.inl (Below.refl _ _))
      refine And.intro (fun w1 vals hB hd a1 ha1 K hK => ?_) ?_
      · have e5 : vals 5 = undef := toldX_at (hd 5 rfl) rfl
        have g2 : vals 2 = .bool false := toldX_at (hd 2 rfl) rfl
        clear hd
        subst ha1
        simp only [putAll, Act.put, List.setIfInBounds_toArray, List.set_cons_zero, List.set_cons_succ] at hK ⊢
        simp only [e5] at hK ⊢
        obtain ⟨ve, hve⟩ : ∃ f : Nat → Value, f = vals := ⟨_, rfl⟩
        rw [← hve] at hK g2 ⊢
        clear e5 hve
        refine gwp_skip rfl g2 ?_
        simp only [Act.put, List.setIfInBounds_toArray, List.set_cons_zero, List.set_cons_succ]
        exact hK _ _ rfl (.inl (Below.refl _ _))
      refine And.intro (fun w1 vals hB hd a1 ha1 K hK => ?_) ?_
      · have e6 : vals 6 = undef := toldX_at (hd 6 rfl) rfl
        have g2 : vals 2 = .bool false := toldX_at (hd 2 rfl) rfl
        clear hd
        subst ha1
        simp only [putAll, Act.put, List.setIfInBounds_toArray, List.set_cons_zero, List.set_cons_succ] at hK ⊢
        simp only [e6] at hK ⊢
        obtain ⟨ve, hve⟩ : ∃ f : Nat → Value, f = vals := ⟨_, rfl⟩
        rw [← hve] at hK g2 ⊢
        clear e6 hve
        refine gwp_skip rfl g2 ?_
        simp only [Act.put, List.setIfInBounds_toArray, List.set_cons_zero, List.set_cons_succ]
        exact hK _ _ rfl (.inl (Below.refl _ _))
      refine And.intro (fun w1 vals hB hd a1 ha1 K hK => ?_) ?_
      · have e4 : vals 4 = undef := toldX_at (hd 4 rfl) rfl
        have e7 : vals 7 = undef := toldX_at (hd 7 rfl) rfl
        have g2 : vals 2 = .bool false := toldX_at (hd 2 rfl) rfl
        clear hd
        subst ha1
        simp only [putAll, Act.put, List.setIfInBounds_toArray, List.set_cons_zero, List.set_cons_succ] at hK ⊢
        simp only [e4, e7] at hK ⊢
        obtain ⟨ve, hve⟩ : ∃ f : Nat → Value, f = vals := ⟨_, rfl⟩
        rw [← hve] at hK g2 ⊢
        clear e4 e7 hve
        refine gwp_skip rfl g2 ?_
        simp only [Act.put, List.setIfInBounds_toArray, List.set_cons_zero, List.set_cons_succ]
        exact hK _ _ rfl (.inl (Below.refl _ _))
      refine And.intro (fun w1 vals hB hd a1 ha1 K hK => ?_) ?_
      · have e2 : vals 2 = .bool false := toldX_at (hd 2 rfl) rfl
        have e8 : vals 8 = undef := toldX_at (hd 8 rfl) rfl
        clear hd
        subst ha1
        simp only [putAll, Act.put, List.setIfInBounds_toArray, List.set_cons_zero, List.set_cons_succ] at hK ⊢
        simp only [e2, e8] at hK ⊢
        obtain ⟨ve, hve⟩ : ∃ f : Nat → Value, f = vals := ⟨_, rfl⟩
        rw [← hve] at hK  ⊢
        clear e2 e8 hve
        refine gwp_none rfl ?_
        go_simp
        exact hK _ _ rfl (.inl (Below.refl _ _))
      refine And.intro (fun w1 vals hB hd a1 ha1 K hK => ?_) ?_
      · have e0 : vals 0 = .agg #[.int .i64 y.nid, .int .i64 y.tier, .int .i64 y.parent, .int .i64 y.at1, .int .i64 y.at2, .int .i64 y.rank, .string y.text] := toldX_at (hd 0 rfl) rfl
        clear hd
        refine gwp_none rfl ?_
        have hth := hB.keep 7 HTX.out
        have hev1 : a1.eval (.tmp 4) = .pointer (some ⟨p + 1, 0, none⟩) := by rw [ha1]; exact (eval_old (by kernel_rfl)).trans rfl
        have hev2 : a1.eval (.tmp 14) = .agg #[.int .i64 y.nid, .int .i64 y.tier, .int .i64 y.parent, .int .i64 y.at1, .int .i64 y.at2, .int .i64 y.rank, .string y.text] := by rw [ha1]; exact (eval_slot (i := 0) (by kernel_rfl) (by kernel_rfl) rfl).trans e0
        clear ha1
        obtain ⟨wS, hwS⟩ : ∃ wS, w1.setCells (p + 1) 0 (#[.int .i64 y.nid, .int .i64 y.tier, .int .i64 y.parent, .int .i64 y.at1, .int .i64 y.at2, .int .i64 y.rank, .string y.text] : Array Value).toList = wS := ⟨_, rfl⟩
        have hX : BelowX (p + 1) w1 wS := by rw [← hwS]; exact BelowX.set _ _ _
        have hR : wS.rangeAt (p + 1) 0 [.int .i64 y.nid, .int .i64 y.tier, .int .i64 y.parent, .int .i64 y.at1, .int .i64 y.at2, .int .i64 y.rank, .string y.text] := by rw [← hwS]; exact World.rangeAt_setCells_same w1 (p + 1) 0 [.int .i64 y.nid, .int .i64 y.tier, .int .i64 y.parent, .int .i64 y.at1, .int .i64 y.at2, .int .i64 y.rank, .string y.text] hth
        have hSz : p + 1 < wS.heap.size := Nat.lt_of_lt_of_le (there_lt hth (by omega)) hX.size
        refine wp_store_mid 58 (.tmp 4) (.tmp 14) rfl (p + 1) 0 #[.int .i64 y.nid, .int .i64 y.tier, .int .i64 y.parent, .int .i64 y.at1, .int .i64 y.at2, .int .i64 y.rank, .string y.text] hev1 hev2 hth (by kernel_rfl) (by simp [Value.oneCell']) ?_
        rw [hwS]
        exact hK undef wS ⟨hSz, hR⟩ (.inr ⟨rfl, hX⟩)
      refine And.intro (fun w1 vals hB hd a1 ha1 K hK => ?_) ?_
      · have e9 : vals 9 = .bool false := toldX_at (hd 9 rfl) rfl
        clear hd
        subst ha1
        simp only [putAll, Act.put, List.setIfInBounds_toArray, List.set_cons_zero, List.set_cons_succ] at hK ⊢
        simp only [e9] at hK ⊢
        obtain ⟨ve, hve⟩ : ∃ f : Nat → Value, f = vals := ⟨_, rfl⟩
        rw [← hve] at hK  ⊢
        clear e9 hve
        refine gwp_none rfl ?_
        go_simp
        exact hK _ _ rfl (.inl (Below.refl _ _))
      exact trivial
    · intro w1 vals hB hd
      have p10 := toldX_at (t := ToldX.put (fun w => (p + 1) < w.heap.size ∧ w.rangeAt (p + 1) 0 [.int .i64 y.nid, .int .i64 y.tier, .int .i64 y.parent, .int .i64 y.at1, .int .i64 y.at2, .int .i64 y.rank, .string y.text]) (fun w w' ⟨h0, h1⟩ hb => ⟨Nat.lt_of_lt_of_le h0 hb.size, range_below hb h0 h1⟩)) (hd 10 (by decide)) rfl
      simp only [ToldX.holds] at p10
      have e11 : vals 11 = .bool false := toldX_at (hd 11 (by decide)) rfl
      clear hd
      simp only [putAll, Act.put, List.setIfInBounds_toArray, List.set_cons_zero, List.set_cons_succ]
      simp only [e11]
      obtain ⟨ve, hve⟩ : ∃ f : Nat → Value, f = vals := ⟨_, rfl⟩
      rw [← hve]
      clear e11 hve
      obtain ⟨h0, h1⟩ := p10
      have H1 := Lib.hid h1
      have HBE : Hid (Below p w w1) := HWB.out.trans (hB.below (by omega) (by omega))
      clear h0 h1
      go_wp2
      refine bodyPost_ret (v := .tuple #[.agg #[.int .i64 y.nid, .int .i64 y.tier, .int .i64 y.parent, .int .i64 y.at1, .int .i64 y.at2, .int .i64 y.rank, .string y.text], .bool false]) ?_ rfl ?_
      · exact results_cell_of rfl _ _ (p + 1) [.int .i64 y.nid, .int .i64 y.tier, .int .i64 y.parent, .int .i64 y.at1, .int .i64 y.at2, .int .i64 y.rank, .string y.text] _ _ rfl rfl H1.out Tryz.underlying58 rfl (by kernel_rfl)
      · exact ⟨by simp, by rw [hp]; exact HBE.out⟩
end Go.Proofs.YthcabnfcgjnlnaaGreatDoor
