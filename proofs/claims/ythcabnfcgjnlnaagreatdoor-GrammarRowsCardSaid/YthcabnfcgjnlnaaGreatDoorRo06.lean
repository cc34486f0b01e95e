import Derived.Test.YthcabnfcgjnlnaaGreatDoorRo05
/-
  The reference's checks of a tier's notes, and of a document: what a document that is light gives.
-/
namespace Go.Proofs.YthcabnfcgjnlnaaGreatDoor
open Go.RowKit Ru Lay
attribute [local go_sem ↓] Go.wp_at_zero Go.wp_at_succ
set_option linter.unusedVariables false
set_option linter.unusedSimpArgs false

theorem wp_hideQ {c : Code} {P : Program} {Q : Exit → Act → World → Prop} {a : Act} {w : World} (h : ∀ QQ : Exit → Act → World → Prop, QQ = Q → c.wp P QQ a w) : c.wp P Q a w := h Q rfl
set_option maxHeartbeats 8000000 in
set_option maxRecDepth 100000 in
theorem tierError_any (d : Dv) (T : List Ti) (l : List Nt) (t : Nat) (w : World) (hT : TiersR w w.heap.size d.ta d.tn T) (hl : NotesR w w.heap.size d.na d.nn l) (hn : d.nn ≤ 14) (ht : t < d.tn) :
    Calls Tryz.prog 56 #[docV d, .int .i64 t] w (IntIf (fun r => r = 0 → TierOk T l (t : Int)) w) := by
  have HL := Lib.hid hl
  have HLN := Lib.hid hl.len
  obtain ⟨ad, ti, hta, hab, htj, _, hcells⟩ := hT.at_ ht
  have htt : tierT T (t : Int) = ti := by unfold tierT; rw [Int.toNat_natCast, List.getD, htj]; rfl
  have HTOK : Hid (TierOk T l (t : Int) = ∀ x ∈ l, x.tier = (t : Int) → SibOk ti.kind (sibF l (t : Int) x.parent)) := by show _ = _; unfold TierOk; rw [htt]
  rw [HTOK.out]
  have HSB := Lib.hid fun (p : Int) (W : World) (hW : Below w.heap.size w W) => siblings_any d l (t : Int) p W (hl.on hW) (by omega)
  have HGT := Lib.hid fun (p : Int) (W : World) (hW : Below w.heap.size w W) => refGet_any d l p W (hl.on hW) (by omega)
  unfold docV at HSB HGT
  unfold docV
  obtain ⟨rid, name, len, day, sa, sn, sc, ta, tn, tc, na, nn, nc⟩ := d
  obtain ⟨tnm, kd, rl, pr⟩ := ti
  simp only at *
  subst hta
  clear hT hl htj htt HTOK
  have htz : (t : Int) < (tn : Int) := by omega
  have htA : (0 : Int) ≤ (t : Int) := by omega
  obtain ⟨tk, htk⟩ : ∃ tk, timedK kd = tk := ⟨_, rfl⟩
  have HAL := Lib.hid fun W => timed_sw kd W htk
  have HTK := Lib.hid htk
  clear htk
  go_enter Tryz.func56, Tryz.ntmps56
  go_upto_region 1 with fail
  obtain ⟨W0, hW0⟩ : ∃ W0, (w.alloc (.cells #[.int .i64 rid, .string name, .int .i64 len, .int .i64 day, .slice sa sn sc, .slice (some ad) tn tc, .slice na nn nc] 38)) = W0 := ⟨_, rfl⟩
  have HB0 : Hid (Below w.heap.size w W0) := by rw [← hW0]; exact ((Below.refl _ _).alloc (by simp <;> omega) _)
  have hz0 : W0.heap.size = w.heap.size + 1 := by rw [← hW0]; simp
  have HC0 : Hid (∀ X, Below W0.heap.size W0 X → X.rangeAt (w.heap.size) 0 [.int .i64 rid, .string name, .int .i64 len, .int .i64 day, .slice sa sn sc, .slice (some ad) tn tc, .slice na nn nc]) := fun X hX => by
    refine range_below hX (by omega) fun j v hv => ?_
    rw [← hW0, Nat.zero_add]; rw [World.cell?_alloc_at _ _ _ _ (by simp), ← hv, ← List.getElem?_toArray]; try rfl
  (try rw [hW0])
  clear hW0
  obtain ⟨q0, q1, q2, q3⟩ := hcells W0 HB0.out
  have g0 := HC0.out W0 (Below.refl _ _)
  have k5 : W0.cell? ⟨w.heap.size, 5, none⟩ = some (.slice (some ad) tn tc) := g0 5 _ rfl
  have k6 : W0.cell? ⟨w.heap.size, 6, none⟩ = some (.slice na nn nc) := g0 6 _ rfl
  clear g0 hcells
  go_upto_region 2 with fail
  clear q0 q1 q2 q3 k5 k6
  go_wp2_with fail
  go_loopw [6, 7, 8, 9, 10, 11] (fun v6 v7 _ _ _ _ wr => ∃ (i : Nat) (r : Int), i ≤ nn ∧ v7 = .int .i64 i ∧ v6 = .int .i64 r ∧ Hid (r = 0 → ∀ (j : Nat) (x : Nt), j < i → l[j]? = some x → x.tier = (t : Int) → SibOk kd (sibF l (t : Int) x.parent)) ∧ Hid (Below W0.heap.size W0 wr)) (fun _ v7 _ _ _ _ _ => nn - (intOf v7).toNat)
  case atStart => exact ⟨0, 0, Nat.zero_le _, rfl, rfl, fun _ j x h => by omega, Below.refl _ _⟩
  case round =>
    obtain ⟨i, r, hi, rfl, rfl, HP, HB1⟩ := hrel
    obtain ⟨w0, hw0⟩ : ∃ w0, wr = w0 := ⟨_, rfl⟩
    rw [hw0] at HB1 ⊢
    clear hw0
    have HBW : Hid (Below w.heap.size w w0) := HB0.out.trans (HB1.out.mono HB0.out.size)
    have g0 := HC0.out w0 HB1.out
    have k6 : w0.cell? ⟨w.heap.size, 6, none⟩ = some (.slice na nn nc) := g0 6 _ rfl
    clear g0
    by_cases hlt : i < nn
    · have hiz : (i : Int) < (nn : Int) := by omega
      have hiA : (0 : Int) ≤ (i : Int) := by omega
      have HI := Lib.hid hlt
      obtain ⟨bd, x, rfl, hbb, hx, hcells⟩ := HL.out.at_ hlt
      obtain ⟨q0, q1, q2, q3, q4, q5, q6⟩ := hcells w0 HBW.out
      have HX := Lib.hid hx
      have HNX : Hid (∀ r2 : Int, (r2 = 0 → r = 0 ∧ (x.tier = (t : Int) → SibOk kd (sibF l (t : Int) x.parent))) → (r2 = 0 → ∀ (j : Nat) (y : Nt), j < i + 1 → l[j]? = some y → y.tier = (t : Int) → SibOk kd (sibF l (t : Int) y.parent))) := fun r2 h h0 j y hj hy hyt => by
        by_cases e : j = i
        · subst e
          rw [HX.out] at hy
          cases hy
          exact (h h0).2 hyt
        · exact HP.out (h h0).1 j y (by omega) hy hyt
      clear hx hcells
      go_upto_region 7 with fail
      obtain ⟨W1, hW2⟩ : ∃ W1, (w0.alloc (.cells #[.int .i64 x.nid, .int .i64 x.tier, .int .i64 x.parent, .int .i64 x.at1, .int .i64 x.at2, .int .i64 x.rank, .string x.text] 58)) = W1 := ⟨_, rfl⟩
      have HB2 : Hid (Below w0.heap.size w0 W1) := by rw [← hW2]; exact ((Below.refl _ _).alloc (by simp <;> omega) _)
      have hz2 : W1.heap.size = w0.heap.size + 1 := by rw [← hW2]; simp
      have HC2 : Hid (∀ X, Below W1.heap.size W1 X → X.rangeAt (w0.heap.size) 0 [.int .i64 x.nid, .int .i64 x.tier, .int .i64 x.parent, .int .i64 x.at1, .int .i64 x.at2, .int .i64 x.rank, .string x.text]) := fun X hX => by
        refine range_below hX (by omega) fun j v hv => ?_
        rw [← hW2, Nat.zero_add]; rw [World.cell?_alloc_at _ _ _ _ (by simp), ← hv, ← List.getElem?_toArray]; try rfl
      (try rw [hW2])
      clear hW2
      have HB12 : Hid (Below W0.heap.size W0 W1) := HB1.out.trans (HB2.out.mono HB1.out.size)
      have HBW1 : Hid (Below w.heap.size w W1) := HBW.out.trans (HB2.out.mono HBW.out.size)
      have g1 := HC2.out W1 (Below.refl _ _)
      have m1 : W1.cell? ⟨w0.heap.size, 1, none⟩ = some (.int .i64 x.tier) := g1 1 _ rfl
      have m2 : W1.cell? ⟨w0.heap.size, 2, none⟩ = some (.int .i64 x.parent) := g1 2 _ rfl
      clear q0 q1 q2 q3 q4 q5 q6 k6 g1
      by_cases ht0 : x.tier = (t : Int)
      · have hbt : (x.tier != (t : Int)) = false := by rw [bne_eq_false_iff_eq]; exact ht0
        have HT0 := Lib.hid ht0
        clear ht0
        have g0 := HC0.out W1 HB12.out
        have k0 : W1.cell? ⟨w.heap.size, 0, none⟩ = some (.int .i64 rid) := g0 0 _ rfl
        have k1 : W1.cell? ⟨w.heap.size, 1, none⟩ = some (.string name) := g0 1 _ rfl
        have k2 : W1.cell? ⟨w.heap.size, 2, none⟩ = some (.int .i64 len) := g0 2 _ rfl
        have k3 : W1.cell? ⟨w.heap.size, 3, none⟩ = some (.int .i64 day) := g0 3 _ rfl
        have k4 : W1.cell? ⟨w.heap.size, 4, none⟩ = some (.slice sa sn sc) := g0 4 _ rfl
        have k5 : W1.cell? ⟨w.heap.size, 5, none⟩ = some (.slice (some ad) tn tc) := g0 5 _ rfl
        have k6 : W1.cell? ⟨w.heap.size, 6, none⟩ = some (.slice (some bd) nn nc) := g0 6 _ rfl
        clear g0
        have HS := Lib.hid (HSB.out x.parent W1 HBW1.out)
        go_wp2_with fail
        refine HS.out.mono ?_
        rintro e w2 ⟨v, rfl, ho, hb⟩
        obtain ⟨A2, c2, rfl, hc1, hc2, hr⟩ := OwnR.form ho
        have HSL : Hid ((sibF l (t : Int) x.parent).length ≤ 14) := by have := sibF_len (l := l) (tier := (t : Int)) (parent := x.parent); show _ ≤ _; rw [HLN.out] at this; omega
        obtain ⟨ss, hss⟩ : ∃ ss, sibF l (t : Int) x.parent = ss := ⟨_, rfl⟩
        rw [hss] at hr HSL HNX hc1 ⊢
        clear hss
        have HSR : Hid (NotesR w2 w2.heap.size A2 ss.length ss) := hr
        have HB22 : Hid (Below W1.heap.size W1 w2) := hb
        have HBW2 : Hid (Below w.heap.size w w2) := HBW1.out.trans (hb.mono HBW1.out.size)
        have HB02 : Hid (Below W0.heap.size W0 w2) := HB12.out.trans (hb.mono HB12.out.size)
        clear ho hb hr HS m1 m2 k0 k1 k2 k3 k4 k5 k6
        obtain ⟨sl, hsl⟩ : ∃ sl, ss.length = sl := ⟨_, rfl⟩
        rw [hsl] at HSR HSL hc1 ⊢
        have HSLN := Lib.hid hsl
        have hsl14 : sl ≤ 14 := HSL.out
        clear hsl
        have HOV := Lib.hid (overlap_any A2 sl c2 ss w2 HSR.out (by omega))
        cases tk with
        | true =>
          go_wp2_with (go_at_call 80; with_reducible refine (HAL.out _).mono ?_; rintro e w9 ⟨rfl, rfl⟩)
          refine HOV.out.mono ?_
          rintro e w3 ⟨ob, rfl, hob, hb3⟩
          have HB23 : Hid (Below w2.heap.size w2 w3) := hb3
          have HBW3 : Hid (Below w.heap.size w w3) := HBW2.out.trans (hb3.mono HBW2.out.size)
          have HB03 : Hid (Below W0.heap.size W0 w3) := HB02.out.trans (hb3.mono HB02.out.size)
          have HBX3 : Hid (Below W1.heap.size W1 w3) := HB22.out.trans (hb3.mono HB22.out.size)
          have HOB := Lib.hid hob
          clear hb3 hob HOV
          cases ob with
          | true =>
            go_wp2
            go_ret
            exact IntIf.of 15 (fun h => absurd h (by decide)) HBW3.out
          | false =>
            have HNOV : Hid (timedK kd = true → NoOver ss) := fun _ => HOB.out rfl
            have g0 := HC0.out w3 HB03.out
            have k0 : w3.cell? ⟨w.heap.size, 0, none⟩ = some (.int .i64 rid) := g0 0 _ rfl
            have k1 : w3.cell? ⟨w.heap.size, 1, none⟩ = some (.string name) := g0 1 _ rfl
            have k2 : w3.cell? ⟨w.heap.size, 2, none⟩ = some (.int .i64 len) := g0 2 _ rfl
            have k3 : w3.cell? ⟨w.heap.size, 3, none⟩ = some (.int .i64 day) := g0 3 _ rfl
            have k4 : w3.cell? ⟨w.heap.size, 4, none⟩ = some (.slice sa sn sc) := g0 4 _ rfl
            have k5 : w3.cell? ⟨w.heap.size, 5, none⟩ = some (.slice (some ad) tn tc) := g0 5 _ rfl
            have k6 : w3.cell? ⟨w.heap.size, 6, none⟩ = some (.slice (some bd) nn nc) := g0 6 _ rfl
            have m2 : w3.cell? ⟨w0.heap.size, 2, none⟩ = some (.int .i64 x.parent) := (HC2.out w3 HBX3.out) 2 _ rfl
            clear g0
            have HG := Lib.hid (HGT.out x.parent w3 HBW3.out)
            unfold getV noteV at HG
            obtain ⟨px, hpx⟩ : ∃ px, (getN l x.parent).getD nt0 = px := ⟨_, rfl⟩
            obtain ⟨ok, hok⟩ : ∃ ok, (getN l x.parent).isSome = ok := ⟨_, rfl⟩
            rw [hpx, hok] at HG
            clear hpx hok
            go_wp2_with fail
            refine HG.out.mono ?_
            rintro e w4 ⟨rfl, hb4⟩
            have HBW4 : Hid (Below w.heap.size w w4) := HBW3.out.trans (hb4.mono HBW3.out.size)
            have HB04 : Hid (Below W0.heap.size W0 w4) := HB03.out.trans (hb4.mono HB03.out.size)
            have HB24 : Hid (Below w2.heap.size w2 w4) := HB23.out.trans (hb4.mono HB23.out.size)
            clear hb4 HG m2 k0 k1 k2 k3 k4 k5 k6
            go_upto_region 12 with fail
            obtain ⟨w5, hW5⟩ : ∃ w5, (w4.alloc (.cells #[.int .i64 px.nid, .int .i64 px.tier, .int .i64 px.parent, .int .i64 px.at1, .int .i64 px.at2, .int .i64 px.rank, .string px.text] 58)) = w5 := ⟨_, rfl⟩
            have HB5 : Hid (Below w4.heap.size w4 w5) := by rw [← hW5]; exact ((Below.refl _ _).alloc (by simp <;> omega) _)
            have hz5 : w5.heap.size = w4.heap.size + 1 := by rw [← hW5]; simp
            have HC5 : Hid (∀ X, Below w5.heap.size w5 X → X.rangeAt (w4.heap.size) 0 [.int .i64 px.nid, .int .i64 px.tier, .int .i64 px.parent, .int .i64 px.at1, .int .i64 px.at2, .int .i64 px.rank, .string px.text]) := fun X hX => by
              refine range_below hX (by omega) fun j v hv => ?_
              rw [← hW5, Nat.zero_add]; rw [World.cell?_alloc_at _ _ _ _ (by simp), ← hv, ← List.getElem?_toArray]; try rfl
            (try rw [hW5])
            clear hW5
            have HBW5 : Hid (Below w.heap.size w w5) := HBW4.out.trans (HB5.out.mono HBW4.out.size)
            have HB05 : Hid (Below W0.heap.size W0 w5) := HB04.out.trans (HB5.out.mono HB04.out.size)
            have HB25 : Hid (Below w2.heap.size w2 w5) := HB24.out.trans (HB5.out.mono HB24.out.size)
            have z3 : kd ≠ 3 := fun h => by have h9 := HTK.out; rw [h] at h9; exact absurd h9 (by decide)
            have z4 : kd ≠ 4 := fun h => by have h9 := HTK.out; rw [h] at h9; exact absurd h9 (by decide)
            have b3 : (kd == 3) = false := beq_eq_false_iff_ne.2 z3
            have b4 : (kd == 4) = false := beq_eq_false_iff_ne.2 z4
            have HSO : Hid (SibOk kd ss) := ⟨HNOV.out, fun h => absurd h z3, fun h => absurd h z4⟩
            clear z3 z4
            by_cases z1 : kd = 1
            · have b1 : (kd == 1) = true := beq_iff_eq.2 z1
              clear z1
              go_wp2_with fail
              refine wp_hideQ fun QQ hQQ => ?_
              refine wp_region_told [Told.is (.int .i64 kd), Told.is (.bool true), Told.is (.bool true), Told.is (.slice A2 sl c2), Told.such (fun v w' => ∃ A' c', v = .slice A' sl c' ∧ SpR w' w'.heap.size A' sl (spansL ss)) (fun v w w' h hb => by obtain ⟨A', c', h1, h2⟩ := h; exact ⟨A', c', h1, SpR.on h2 hb⟩), Told.is (.pointer (some ⟨w4.heap.size, 3, none⟩)), Told.is (.agg #[.int .i64 px.at1, .int .i64 px.at2]), Told.such (fun v _ => ∃ b : Bool, v = .bool b) (fun v w w' h _ => h), Told.such (fun v _ => ∃ b : Bool, v = .bool b) (fun v w w' h _ => h), Told.such (fun v _ => ∃ b : Bool, v = .bool b) (fun v w w' h _ => h)] (by kernel_rfl) (by kernel_rfl) ?_ ?_
              · refine And.intro ?_ ?_
                · intro w1 vals hB hd K hK
                  simp only [putAll, Act.put, List.setIfInBounds_toArray, List.set_cons_zero, List.set_cons_succ] at hK ⊢
                  clear hd
                  obtain ⟨ve, hve⟩ : ∃ f : Nat → Value, f = vals := ⟨_, rfl⟩
                  rw [← hve] at hK  ⊢
                  clear hve
                  refine gwp_none rfl ?_
                  go_simp
                  exact hK _ _ rfl (Below.refl _ _)
                refine And.intro ?_ ?_
                · intro w1 vals hB hd K hK
                  simp only [putAll, Act.put, List.setIfInBounds_toArray, List.set_cons_zero, List.set_cons_succ] at hK ⊢
                  have e0 : vals 0 = .int .i64 kd := told_at (hd 0 rfl) rfl
                  clear hd
                  simp only [e0] at hK ⊢
                  obtain ⟨ve, hve⟩ : ∃ f : Nat → Value, f = vals := ⟨_, rfl⟩
                  rw [← hve] at hK  ⊢
                  clear e0 hve
                  refine gwp_none rfl ?_
                  go_simp
                  exact hK _ _ rfl (Below.refl _ _)
                refine And.intro ?_ ?_
                · intro w1 vals hB hd K hK
                  simp only [putAll, Act.put, List.setIfInBounds_toArray, List.set_cons_zero, List.set_cons_succ] at hK ⊢
                  have e1 : vals 1 = .bool true := told_at (hd 1 rfl) rfl
                  clear hd
                  simp only [e1] at hK ⊢
                  obtain ⟨ve, hve⟩ : ∃ f : Nat → Value, f = vals := ⟨_, rfl⟩
                  rw [← hve] at hK  ⊢
                  clear e1 hve
                  refine gwp_none rfl ?_
                  go_simp
                  exact hK _ _ rfl (Below.refl _ _)
                refine And.intro ?_ ?_
                · intro w1 vals hB hd K hK
                  simp only [putAll, Act.put, List.setIfInBounds_toArray, List.set_cons_zero, List.set_cons_succ] at hK ⊢
                  have g2 : vals 2 = .bool true := told_at (hd 2 rfl) rfl
                  clear hd
                  obtain ⟨ve, hve⟩ : ∃ f : Nat → Value, f = vals := ⟨_, rfl⟩
                  rw [← hve] at hK g2 ⊢
                  clear hve
                  refine gwp_some rfl g2 ?_
                  clear g2
                  go_simp
                  exact hK _ _ rfl (Below.refl _ _)
                refine And.intro ?_ ?_
                · intro w1 vals hB hd K hK
                  simp only [putAll, Act.put, List.setIfInBounds_toArray, List.set_cons_zero, List.set_cons_succ] at hK ⊢
                  have e3 : vals 3 = .slice A2 sl c2 := told_at (hd 3 rfl) rfl
                  have g2 : vals 2 = .bool true := told_at (hd 2 rfl) rfl
                  clear hd
                  simp only [e3] at hK ⊢
                  obtain ⟨ve, hve⟩ : ∃ f : Nat → Value, f = vals := ⟨_, rfl⟩
                  rw [← hve] at hK g2 ⊢
                  clear e3 hve
                  refine gwp_some rfl g2 ?_
                  clear g2
                  go_simp
                  refine (spans_any A2 sl c2 ss w1 (HSR.out.on (HB25.out.trans (hB.mono HB25.out.size))) (by omega)).mono ?_
                  rintro e w7 ⟨v, rfl, ho, hb⟩
                  obtain ⟨A7, c7, hv7, _, _, hr7⟩ := SpO.form ho
                  have hsl7 : (spansL ss).length = sl := by unfold spansL; rw [List.length_map, HSLN.out]
                  rw [hsl7] at hv7 hr7
                  exact hK _ _ ⟨A7, c7, hv7, hr7⟩ hb
                refine And.intro ?_ ?_
                · intro w1 vals hB hd K hK
                  simp only [putAll, Act.put, List.setIfInBounds_toArray, List.set_cons_zero, List.set_cons_succ] at hK ⊢
                  have g2 : vals 2 = .bool true := told_at (hd 2 rfl) rfl
                  clear hd
                  obtain ⟨ve, hve⟩ : ∃ f : Nat → Value, f = vals := ⟨_, rfl⟩
                  rw [← hve] at hK g2 ⊢
                  clear hve
                  refine gwp_some rfl g2 ?_
                  clear g2
                  go_simp
                  exact hK _ _ rfl (Below.refl _ _)
                refine And.intro ?_ ?_
                · intro w1 vals hB hd K hK
                  simp only [putAll, Act.put, List.setIfInBounds_toArray, List.set_cons_zero, List.set_cons_succ] at hK ⊢
                  have e5 : vals 5 = .pointer (some ⟨w4.heap.size, 3, none⟩) := told_at (hd 5 rfl) rfl
                  have g2 : vals 2 = .bool true := told_at (hd 2 rfl) rfl
                  clear hd
                  simp only [e5] at hK ⊢
                  obtain ⟨ve, hve⟩ : ∃ f : Nat → Value, f = vals := ⟨_, rfl⟩
                  rw [← hve] at hK g2 ⊢
                  clear e5 hve
                  refine gwp_some rfl g2 ?_
                  clear g2
                  have h58 : w1.rangeAt w4.heap.size 3 [.int .i64 px.at1, .int .i64 px.at2] := fun n v hv => by
                    have h0 := HC5.out w1 hB
                    match n, hv with
                    | 0, hv => cases hv; exact h0 3 _ rfl
                    | 1, hv => cases hv; exact h0 4 _ rfl
                  refine wp_load_mid 56 (.tmp 57) rfl w4.heap.size 3 rfl [.int .i64 px.at1, .int .i64 px.at2] _ h58 Tryz.underlying56 rfl (by kernel_rfl) ?_
                  simp only [Act.put, List.setIfInBounds_toArray, List.set_cons_zero, List.set_cons_succ]
                  exact hK _ _ rfl (Below.refl _ _)
                refine And.intro ?_ ?_
                · intro w1 vals hB hd K hK
                  simp only [putAll, Act.put, List.setIfInBounds_toArray, List.set_cons_zero, List.set_cons_succ] at hK ⊢
                  have p4 := told_at (t := Told.such (fun v w' => ∃ A' c', v = .slice A' sl c' ∧ SpR w' w'.heap.size A' sl (spansL ss)) (fun v w w' h hb => by obtain ⟨A', c', h1, h2⟩ := h; exact ⟨A', c', h1, SpR.on h2 hb⟩)) (hd 4 rfl) rfl
                  simp only [Told.holds] at p4
                  have e6 : vals 6 = .agg #[.int .i64 px.at1, .int .i64 px.at2] := told_at (hd 6 rfl) rfl
                  have g2 : vals 2 = .bool true := told_at (hd 2 rfl) rfl
                  clear hd
                  obtain ⟨x4, hx4⟩ : ∃ x, vals 4 = x := ⟨_, rfl⟩
                  rw [hx4] at p4
                  simp only [e6, hx4] at hK ⊢
                  obtain ⟨ve, hve⟩ : ∃ f : Nat → Value, f = vals := ⟨_, rfl⟩
                  rw [← hve] at hK g2 ⊢
                  clear e6 hx4 hve
                  refine gwp_some rfl g2 ?_
                  clear g2
                  obtain ⟨A', c', rfl, hs⟩ := p4
                  go_simp
                  refine (covers_any A' sl c' (spansL ss) px.at1 px.at2 w1 hs (by omega)).mono ?_
                  rintro e w7 ⟨b, rfl, _, hb⟩
                  exact hK _ _ ⟨b, rfl⟩ hb
                refine And.intro ?_ ?_
                · intro w1 vals hB hd K hK
                  simp only [putAll, Act.put, List.setIfInBounds_toArray, List.set_cons_zero, List.set_cons_succ] at hK ⊢
                  have p7 := told_at (t := Told.such (fun v _ => ∃ b : Bool, v = .bool b) (fun v w w' h _ => h)) (hd 7 rfl) rfl
                  simp only [Told.holds] at p7
                  have g2 : vals 2 = .bool true := told_at (hd 2 rfl) rfl
                  clear hd
                  obtain ⟨x7, hx7⟩ : ∃ x, vals 7 = x := ⟨_, rfl⟩
                  rw [hx7] at p7
                  simp only [hx7] at hK ⊢
                  obtain ⟨ve, hve⟩ : ∃ f : Nat → Value, f = vals := ⟨_, rfl⟩
                  rw [← hve] at hK g2 ⊢
                  clear hx7 hve
                  refine gwp_some rfl g2 ?_
                  clear g2
                  obtain ⟨b, rfl⟩ := p7
                  go_simp
                  exact hK _ _ ⟨_, rfl⟩ (Below.refl _ _)
                refine And.intro ?_ ?_
                · intro w1 vals hB hd K hK
                  simp only [putAll, Act.put, List.setIfInBounds_toArray, List.set_cons_zero, List.set_cons_succ] at hK ⊢
                  have e2 : vals 2 = .bool true := told_at (hd 2 rfl) rfl
                  have p8 := told_at (t := Told.such (fun v _ => ∃ b : Bool, v = .bool b) (fun v w w' h _ => h)) (hd 8 rfl) rfl
                  simp only [Told.holds] at p8
                  clear hd
                  obtain ⟨x8, hx8⟩ : ∃ x, vals 8 = x := ⟨_, rfl⟩
                  rw [hx8] at p8
                  simp only [e2, hx8] at hK ⊢
                  obtain ⟨ve, hve⟩ : ∃ f : Nat → Value, f = vals := ⟨_, rfl⟩
                  rw [← hve] at hK  ⊢
                  clear e2 hx8 hve
                  refine gwp_none rfl ?_
                  obtain ⟨b, rfl⟩ := p8
                  cases b
                  · go_simp
                    exact hK _ _ ⟨false, rfl⟩ (Below.refl _ _)
                  · go_simp
                    exact hK _ _ ⟨true, rfl⟩ (Below.refl _ _)
                exact trivial
              · intro w1 vals hB hd
                have p9 := told_at (t := Told.such (fun v _ => ∃ b : Bool, v = .bool b) (fun v w w' h _ => h)) (hd 9 (by decide)) rfl
                simp only [Told.holds] at p9
                obtain ⟨x9, hx9⟩ : ∃ x, vals 9 = x := ⟨_, rfl⟩
                rw [hx9] at p9
                clear hd
                simp only [putAll, Act.put, List.setIfInBounds_toArray, List.set_cons_zero, List.set_cons_succ]
                simp only [hx9]
                obtain ⟨ve, hve⟩ : ∃ f : Nat → Value, f = vals := ⟨_, rfl⟩
                rw [← hve]
                clear hx9 hve
                rw [hQQ]
                clear hQQ
                obtain ⟨b, rfl⟩ := p9
                have HB06 : Hid (Below W0.heap.size W0 w1) := HB05.out.trans (hB.mono HB05.out.size)
                clear hB
                cases b with
                | true =>
                  have HN2 := Lib.hid (HNX.out 16 fun h => absurd h (by decide))
                  go_wp2
                  go_roundw
                  case rel => exact ⟨i + 1, 16, HI.out, by go_num, rfl, HN2, HB06⟩
                  case measure => have := HI.out; simp [intOf]; omega
                | false =>
                  have HN2 := Lib.hid (HNX.out r fun h => ⟨h, fun _ => HSO.out⟩)
                  go_wp2
                  go_roundw
                  case rel => exact ⟨i + 1, r, HI.out, by go_num, rfl, HN2, HB06⟩
                  case measure => have := HI.out; simp [intOf]; omega
            · have b1 : (kd == 1) = false := beq_eq_false_iff_ne.2 z1
              have HN2 := Lib.hid (HNX.out r fun h => ⟨h, fun _ => HSO.out⟩)
              clear z1
              go_wp2_with fail
              go_quiet (fail)
              have HB06 : Hid (Below W0.heap.size W0 (w5.drewN nq)) := below_drewN HB05.out nq
              have HB26 : Hid (Below w2.heap.size w2 (w5.drewN nq)) := below_drewN HB25.out nq
              obtain ⟨w6, hw6⟩ : ∃ w6, w5.drewN nq = w6 := ⟨_, rfl⟩
              rw [hw6] at HB06 HB26 ⊢
              clear hw6
              go_wp2
              go_roundw
              case rel => exact ⟨i + 1, r, HI.out, by go_num, rfl, HN2, HB06⟩
              case measure => have := HI.out; simp [intOf]; omega
        | false =>
          have HNOV : Hid (timedK kd = true → NoOver ss) := fun h => by rw [HTK.out] at h; cases h
          have HB22r : Hid (Below w2.heap.size w2 w2) := Below.refl _ _
          clear HOV
          have g0 := HC0.out w2 HB02.out
          have k0 : w2.cell? ⟨w.heap.size, 0, none⟩ = some (.int .i64 rid) := g0 0 _ rfl
          have k1 : w2.cell? ⟨w.heap.size, 1, none⟩ = some (.string name) := g0 1 _ rfl
          have k2 : w2.cell? ⟨w.heap.size, 2, none⟩ = some (.int .i64 len) := g0 2 _ rfl
          have k3 : w2.cell? ⟨w.heap.size, 3, none⟩ = some (.int .i64 day) := g0 3 _ rfl
          have k4 : w2.cell? ⟨w.heap.size, 4, none⟩ = some (.slice sa sn sc) := g0 4 _ rfl
          have k5 : w2.cell? ⟨w.heap.size, 5, none⟩ = some (.slice (some ad) tn tc) := g0 5 _ rfl
          have k6 : w2.cell? ⟨w.heap.size, 6, none⟩ = some (.slice (some bd) nn nc) := g0 6 _ rfl
          have m2 : w2.cell? ⟨w0.heap.size, 2, none⟩ = some (.int .i64 x.parent) := (HC2.out w2 HB22.out) 2 _ rfl
          clear g0
          have HG := Lib.hid (HGT.out x.parent w2 HBW2.out)
          unfold getV noteV at HG
          obtain ⟨px, hpx⟩ : ∃ px, (getN l x.parent).getD nt0 = px := ⟨_, rfl⟩
          obtain ⟨ok, hok⟩ : ∃ ok, (getN l x.parent).isSome = ok := ⟨_, rfl⟩
          rw [hpx, hok] at HG
          clear hpx hok
          go_wp2_with (go_at_call 80; with_reducible refine (HAL.out _).mono ?_; rintro e w9 ⟨rfl, rfl⟩)
          refine HG.out.mono ?_
          rintro e w4 ⟨rfl, hb4⟩
          have HBW4 : Hid (Below w.heap.size w w4) := HBW2.out.trans (hb4.mono HBW2.out.size)
          have HB04 : Hid (Below W0.heap.size W0 w4) := HB02.out.trans (hb4.mono HB02.out.size)
          have HB24 : Hid (Below w2.heap.size w2 w4) := HB22r.out.trans (hb4.mono HB22r.out.size)
          clear hb4 HG m2 k0 k1 k2 k3 k4 k5 k6
          go_upto_region 12 with fail
          obtain ⟨w5, hW5⟩ : ∃ w5, (w4.alloc (.cells #[.int .i64 px.nid, .int .i64 px.tier, .int .i64 px.parent, .int .i64 px.at1, .int .i64 px.at2, .int .i64 px.rank, .string px.text] 58)) = w5 := ⟨_, rfl⟩
          have HB5 : Hid (Below w4.heap.size w4 w5) := by rw [← hW5]; exact ((Below.refl _ _).alloc (by simp <;> omega) _)
          have hz5 : w5.heap.size = w4.heap.size + 1 := by rw [← hW5]; simp
          have HC5 : Hid (∀ X, Below w5.heap.size w5 X → X.rangeAt (w4.heap.size) 0 [.int .i64 px.nid, .int .i64 px.tier, .int .i64 px.parent, .int .i64 px.at1, .int .i64 px.at2, .int .i64 px.rank, .string px.text]) := fun X hX => by
            refine range_below hX (by omega) fun j v hv => ?_
            rw [← hW5, Nat.zero_add]; rw [World.cell?_alloc_at _ _ _ _ (by simp), ← hv, ← List.getElem?_toArray]; try rfl
          (try rw [hW5])
          clear hW5
          have HBW5 : Hid (Below w.heap.size w w5) := HBW4.out.trans (HB5.out.mono HBW4.out.size)
          have HB05 : Hid (Below W0.heap.size W0 w5) := HB04.out.trans (HB5.out.mono HB04.out.size)
          have HB25 : Hid (Below w2.heap.size w2 w5) := HB24.out.trans (HB5.out.mono HB24.out.size)
          have z1 : kd ≠ 1 := fun h => by have h9 := HTK.out; rw [h] at h9; exact absurd h9 (by decide)
          have b1 : (kd == 1) = false := beq_eq_false_iff_ne.2 z1
          clear z1
          by_cases z3 : kd = 3
          · have b3 : (kd == 3) = true := beq_iff_eq.2 z3
            have b4 : (kd == 4) = false := beq_eq_false_iff_ne.2 (by omega)
            have Z3 := Lib.hid z3
            clear z3
            go_wp2_with fail
            go_quiet (fail)
            have HB06 : Hid (Below W0.heap.size W0 (w5.drewN nq)) := below_drewN HB05.out nq
            have HB26 : Hid (Below w2.heap.size w2 (w5.drewN nq)) := below_drewN HB25.out nq
            obtain ⟨w6, hw6⟩ : ∃ w6, w5.drewN nq = w6 := ⟨_, rfl⟩
            rw [hw6] at HB06 HB26 ⊢
            clear hw6
            have HRK := Lib.hid (ranked_any A2 sl c2 ss w6 (HSR.out.on HB26.out) (by omega))
            go_wp2_with fail
            refine HRK.out.mono ?_
            rintro e w7 ⟨rk, rfl, hrk, hb7⟩
            have HRKO := Lib.hid hrk
            have HB07 : Hid (Below W0.heap.size W0 w7) := HB06.out.trans (hb7.mono HB06.out.size)
            clear hb7 hrk HRK
            cases rk with
            | true =>
              have HSO : Hid (SibOk kd ss) := ⟨HNOV.out, fun _ => HRKO.out rfl, fun h => absurd (Z3.out.symm.trans h) (by decide)⟩
              have HN2 := Lib.hid (HNX.out r fun h => ⟨h, fun _ => HSO.out⟩)
              go_wp2
              go_roundw
              case rel => exact ⟨i + 1, r, HI.out, by go_num, rfl, HN2, HB07⟩
              case measure => have := HI.out; simp [intOf]; omega
            | false =>
              have HN2 := Lib.hid (HNX.out 10 fun h => absurd h (by decide))
              go_wp2
              go_roundw
              case rel => exact ⟨i + 1, 10, HI.out, by go_num, rfl, HN2, HB07⟩
              case measure => have := HI.out; simp [intOf]; omega
          · have b3 : (kd == 3) = false := beq_eq_false_iff_ne.2 z3
            by_cases z4 : kd = 4
            · have b4 : (kd == 4) = true := beq_iff_eq.2 z4
              have Z4 := Lib.hid z4
              clear z3 z4
              go_wp2_with fail
              go_quiet (fail)
              have HB06 : Hid (Below W0.heap.size W0 (w5.drewN nq)) := below_drewN HB05.out nq
              have HB26 : Hid (Below w2.heap.size w2 (w5.drewN nq)) := below_drewN HB25.out nq
              obtain ⟨w6, hw6⟩ : ∃ w6, w5.drewN nq = w6 := ⟨_, rfl⟩
              rw [hw6] at HB06 HB26 ⊢
              clear hw6
              by_cases s1 : 1 < sl
              · have s1z : (1 : Int) < (sl : Int) := by omega
                have HN2 := Lib.hid (HNX.out 8 fun h => absurd h (by decide))
                go_wp2
                go_roundw
                case rel => exact ⟨i + 1, 8, HI.out, by go_num, rfl, HN2, HB06⟩
                case measure => have := HI.out; simp [intOf]; omega
              · have s1z : ¬ (1 : Int) < (sl : Int) := by omega
                have HSO : Hid (SibOk kd ss) := ⟨HNOV.out, fun h => absurd (Z4.out.symm.trans h) (by decide), fun _ => by rw [HSLN.out]; omega⟩
                have HN2 := Lib.hid (HNX.out r fun h => ⟨h, fun _ => HSO.out⟩)
                go_wp2
                go_roundw
                case rel => exact ⟨i + 1, r, HI.out, by go_num, rfl, HN2, HB06⟩
                case measure => have := HI.out; simp [intOf]; omega
            · have b4 : (kd == 4) = false := beq_eq_false_iff_ne.2 z4
              have HSO : Hid (SibOk kd ss) := ⟨HNOV.out, fun h => absurd h z3, fun h => absurd h z4⟩
              have HN2 := Lib.hid (HNX.out r fun h => ⟨h, fun _ => HSO.out⟩)
              clear z3 z4
              go_wp2_with fail
              go_quiet (fail)
              have HB06 : Hid (Below W0.heap.size W0 (w5.drewN nq)) := below_drewN HB05.out nq
              have HB26 : Hid (Below w2.heap.size w2 (w5.drewN nq)) := below_drewN HB25.out nq
              obtain ⟨w6, hw6⟩ : ∃ w6, w5.drewN nq = w6 := ⟨_, rfl⟩
              rw [hw6] at HB06 HB26 ⊢
              clear hw6
              go_wp2
              go_roundw
              case rel => exact ⟨i + 1, r, HI.out, by go_num, rfl, HN2, HB06⟩
              case measure => have := HI.out; simp [intOf]; omega
      · have hbt : (x.tier != (t : Int)) = true := bne_iff_ne.2 ht0
        have HN2 := Lib.hid (HNX.out r fun h => ⟨h, fun h2 => absurd h2 ht0⟩)
        clear ht0
        go_wp2
        go_roundw
        case rel => exact ⟨i + 1, r, HI.out, by go_num, rfl, HN2, HB12⟩
        case measure => have := HI.out; simp [intOf]; omega
    · obtain rfl : nn = i := by omega
      have hiz : ¬ (nn : Int) < (nn : Int) := by omega
      have HF : Hid (r = 0 → ∀ x ∈ l, x.tier = (t : Int) → SibOk kd (sibF l (t : Int) x.parent)) := fun h x hx hxt => by
        obtain ⟨j, hj⟩ := List.getElem?_of_mem hx
        exact HP.out h j x (by rw [← HLN.out]; exact (List.getElem?_eq_some_iff.1 hj).1) hj hxt
      go_wp2
      go_ret
      exact IntIf.of r HF.out HBW.out
end Go.Proofs.YthcabnfcgjnlnaaGreatDoor
/-
  The reference's check of a document, and Light: what a document that is light gives.
-/
namespace Go.Proofs.YthcabnfcgjnlnaaGreatDoor
open Go.RowKit Ru Lay
attribute [local go_sem ↓] Go.wp_at_zero Go.wp_at_succ
set_option linter.unusedVariables false
set_option linter.unusedSimpArgs false

set_option maxHeartbeats 4000000 in
set_option maxRecDepth 100000 in
theorem check12_any (d : Dv) (T : List Ti) (l : List Nt) (w : World) (hT : TiersR w w.heap.size d.ta d.tn T) (hl : NotesR w w.heap.size d.na d.nn l) (hn : d.nn ≤ 14) (ht : d.tn ≤ 6) :
    Calls Tryz.prog 35 #[docV d] w (IntIf (fun r => r = 0 → DocOk T l) w) := by
  have HLN := Lib.hid hl.len
  have HTN := Lib.hid hT.len
  have HC11 := Lib.hid fun (W : World) (hW : Below w.heap.size w W) => check11_any d.ta d.tn d.tc T W (hT.on hW) (by omega)
  have HNE := Lib.hid fun (i : Nat) (hi : i < d.nn) (W : World) (hW : Below w.heap.size w W) => noteError_any d T l i W (hT.on hW) (hl.on hW) (by omega) (by omega) hi
  have HTE := Lib.hid fun (t : Nat) (hi : t < d.tn) (W : World) (hW : Below w.heap.size w W) => tierError_any d T l t W (hT.on hW) (hl.on hW) hn hi
  clear hT hl
  unfold docV at HNE HTE
  unfold docV
  obtain ⟨rid, name, len, day, sa, sn, sc, ta, tn, tc, na, nn, nc⟩ := d
  simp only at *
  go_enter Tryz.func35, Tryz.ntmps35
  go_upto_region 1 with fail
  obtain ⟨W0, hW0⟩ : ∃ W0, (w.alloc (.cells #[.int .i64 rid, .string name, .int .i64 len, .int .i64 day, .slice sa sn sc, .slice ta tn tc, .slice na nn nc] 38)) = W0 := ⟨_, rfl⟩
  have HB0 : Hid (Below w.heap.size w W0) := by rw [← hW0]; exact ((Below.refl _ _).alloc (by simp <;> omega) _)
  have hz0 : W0.heap.size = w.heap.size + 1 := by rw [← hW0]; simp
  have HC0 : Hid (∀ X, Below W0.heap.size W0 X → X.rangeAt (w.heap.size) 0 [.int .i64 rid, .string name, .int .i64 len, .int .i64 day, .slice sa sn sc, .slice ta tn tc, .slice na nn nc]) := fun X hX => by
    refine range_below hX (by omega) fun j v hv => ?_
    rw [← hW0, Nat.zero_add]; rw [World.cell?_alloc_at _ _ _ _ (by simp), ← hv, ← List.getElem?_toArray]; try rfl
  (try rw [hW0])
  clear hW0
  have g0 := HC0.out W0 (Below.refl _ _)
  have k5 : W0.cell? ⟨w.heap.size, 5, none⟩ = some (.slice ta tn tc) := g0 5 _ rfl
  clear g0
  go_wp2_with fail
  refine (HC11.out W0 HB0.out).mono ?_
  rintro e w1 ⟨r, rfl, hr, hb1⟩
  have HR := Lib.hid hr
  have HB01 : Hid (Below W0.heap.size W0 w1) := hb1
  have HB1 : Hid (Below w.heap.size w w1) := HB0.out.trans (hb1.mono HB0.out.size)
  clear hb1 hr k5
  by_cases r0 : r = 0
  · subst r0
    have HTI := Lib.hid (HR.out rfl)
    have g0 := HC0.out w1 HB01.out
    have k2 : w1.cell? ⟨w.heap.size, 2, none⟩ = some (.int .i64 len) := g0 2 _ rfl
    have k6 : w1.cell? ⟨w.heap.size, 6, none⟩ = some (.slice na nn nc) := g0 6 _ rfl
    clear g0
    by_cases l0 : len < 0
    · have l1 : decide (len < 0) = true := decide_eq_true l0
      go_wp2
      go_ret
      exact IntIf.of 12 (fun h => absurd h (by decide)) HB1.out
    · have l1 : decide (len < 0) = false := decide_eq_false l0
      by_cases l2 : 86400000 < len
      · have l3 : decide (len > 86400000) = true := decide_eq_true l2
        have l3' : decide (86400000 < len) = true := decide_eq_true l2
        go_wp2
        go_ret
        exact IntIf.of 12 (fun h => absurd h (by decide)) HB1.out
      · have l3 : decide (len > 86400000) = false := decide_eq_false l2
        have l3' : decide (86400000 < len) = false := decide_eq_false l2
        have n3 : ¬ (300 : Int) < (nn : Int) := by omega
        go_wp2_with fail
        clear k2 k6 l0 l1 l2 l3 l3'
        go_loopw [4] (fun v4 wr => ∃ i : Nat, i ≤ nn ∧ v4 = .int .i64 i ∧ Hid (∀ j, j < i → NOk T l j) ∧ Hid (Below W0.heap.size W0 wr)) (fun v4 _ => nn - (intOf v4).toNat)
        case atStart => exact ⟨0, Nat.zero_le _, rfl, fun j h => by omega, HB01⟩
        case round =>
          clear HB01 HB1
          obtain ⟨i, hi, rfl, HP, HB01⟩ := hrel
          obtain ⟨w2, hw2⟩ : ∃ w2, wr = w2 := ⟨_, rfl⟩
          rw [hw2] at HB01 ⊢
          clear hw2
          have HB2 : Hid (Below w.heap.size w w2) := HB0.out.trans (HB01.out.mono HB0.out.size)
          have g0 := HC0.out w2 HB01.out
          have k0 : w2.cell? ⟨w.heap.size, 0, none⟩ = some (.int .i64 rid) := g0 0 _ rfl
          have k1 : w2.cell? ⟨w.heap.size, 1, none⟩ = some (.string name) := g0 1 _ rfl
          have k2 : w2.cell? ⟨w.heap.size, 2, none⟩ = some (.int .i64 len) := g0 2 _ rfl
          have k3 : w2.cell? ⟨w.heap.size, 3, none⟩ = some (.int .i64 day) := g0 3 _ rfl
          have k4 : w2.cell? ⟨w.heap.size, 4, none⟩ = some (.slice sa sn sc) := g0 4 _ rfl
          have k5 : w2.cell? ⟨w.heap.size, 5, none⟩ = some (.slice ta tn tc) := g0 5 _ rfl
          have k6 : w2.cell? ⟨w.heap.size, 6, none⟩ = some (.slice na nn nc) := g0 6 _ rfl
          clear g0
          by_cases hlt : i < nn
          · have hiz : (i : Int) < (nn : Int) := by omega
            have HI := Lib.hid hlt
            have HE := Lib.hid (HNE.out i hlt w2 HB2.out)
            go_wp2_with fail
            refine HE.out.mono ?_
            rintro e w3 ⟨r, rfl, hr, hb3⟩
            have HR3 := Lib.hid hr
            have HB03 : Hid (Below W0.heap.size W0 w3) := HB01.out.trans (hb3.mono HB01.out.size)
            have HB3 : Hid (Below w.heap.size w w3) := HB2.out.trans (hb3.mono HB2.out.size)
            clear hb3 hr HE k0 k1 k2 k3 k4 k5 k6
            by_cases r0 : r = 0
            · subst r0
              have HP2 : Hid (∀ j, j < i + 1 → NOk T l j) := fun j hj => by
                by_cases e : j = i
                · subst e; exact HR3.out rfl
                · exact HP.out j (by omega)
              go_wp2
              go_roundw
              case rel => exact ⟨i + 1, HI.out, by go_num, HP2, HB03⟩
              case measure => have := HI.out; simp [intOf]; omega
            · have rb : (r != 0) = true := bne_iff_ne.2 r0
              have HR0 := Lib.hid r0
              clear r0
              go_wp2
              go_ret
              exact IntIf.of r (fun h => absurd h HR0.out) HB3.out
          · obtain rfl : nn = i := by omega
            have hiz : ¬ (nn : Int) < (nn : Int) := by omega
            have HNT : Hid (∀ i, i < l.length → NOk T l i) := fun i hi => HP.out i (by rw [← HLN.out]; exact hi)
            go_wp2_with fail
            clear k0 k1 k2 k3 k4 k5 k6 HP HNE hiz
            go_loopw [6] (fun v6 wr => ∃ i : Nat, i ≤ tn ∧ v6 = .int .i64 i ∧ Hid (∀ j : Nat, j < i → TierOk T l (j : Int)) ∧ Hid (Below W0.heap.size W0 wr)) (fun v6 _ => tn - (intOf v6).toNat)
            case atStart => exact ⟨0, Nat.zero_le _, rfl, fun j h => by omega, HB01⟩
            case round =>
              clear HB01 HB2
              obtain ⟨i, hi, rfl, HP, HB01⟩ := hrel
              obtain ⟨w2, hw2⟩ : ∃ w2, wr = w2 := ⟨_, rfl⟩
              rw [hw2] at HB01 ⊢
              clear hw2
              have HB2 : Hid (Below w.heap.size w w2) := HB0.out.trans (HB01.out.mono HB0.out.size)
              have g0 := HC0.out w2 HB01.out
              have k0 : w2.cell? ⟨w.heap.size, 0, none⟩ = some (.int .i64 rid) := g0 0 _ rfl
              have k1 : w2.cell? ⟨w.heap.size, 1, none⟩ = some (.string name) := g0 1 _ rfl
              have k2 : w2.cell? ⟨w.heap.size, 2, none⟩ = some (.int .i64 len) := g0 2 _ rfl
              have k3 : w2.cell? ⟨w.heap.size, 3, none⟩ = some (.int .i64 day) := g0 3 _ rfl
              have k4 : w2.cell? ⟨w.heap.size, 4, none⟩ = some (.slice sa sn sc) := g0 4 _ rfl
              have k5 : w2.cell? ⟨w.heap.size, 5, none⟩ = some (.slice ta tn tc) := g0 5 _ rfl
              have k6 : w2.cell? ⟨w.heap.size, 6, none⟩ = some (.slice na nn nc) := g0 6 _ rfl
              clear g0
              by_cases hlt : i < tn
              · have hiz : (i : Int) < (tn : Int) := by omega
                have HI := Lib.hid hlt
                have HE := Lib.hid (HTE.out i hlt w2 HB2.out)
                go_wp2_with fail
                refine HE.out.mono ?_
                rintro e w3 ⟨r, rfl, hr, hb3⟩
                have HR3 := Lib.hid hr
                have HB03 : Hid (Below W0.heap.size W0 w3) := HB01.out.trans (hb3.mono HB01.out.size)
                have HB3 : Hid (Below w.heap.size w w3) := HB2.out.trans (hb3.mono HB2.out.size)
                clear hb3 hr HE k0 k1 k2 k3 k4 k5 k6
                by_cases r0 : r = 0
                · subst r0
                  have HP2 : Hid (∀ j : Nat, j < i + 1 → TierOk T l (j : Int)) := fun j hj => by
                    by_cases e : j = i
                    · subst e; exact HR3.out rfl
                    · exact HP.out j (by omega)
                  go_wp2
                  go_roundw
                  case rel => exact ⟨i + 1, HI.out, by go_num, HP2, HB03⟩
                  case measure => have := HI.out; simp [intOf]; omega
                · have rb : (r != 0) = true := bne_iff_ne.2 r0
                  have HR0 := Lib.hid r0
                  clear r0
                  go_wp2
                  go_ret
                  exact IntIf.of r (fun h => absurd h HR0.out) HB3.out
              · obtain rfl : tn = i := by omega
                have hiz : ¬ (tn : Int) < (tn : Int) := by omega
                have HF : Hid (DocOk T l) := ⟨HTI.out, HNT.out, fun t ht => HP.out t (by rw [← HTN.out]; exact ht)⟩
                go_wp2
                go_ret
                exact IntIf.of 0 (fun _ => HF.out) HB2.out
  · have rb : (r != 0) = true := bne_iff_ne.2 r0
    have HR0 := Lib.hid r0
    clear r0
    go_wp2
    go_ret
    exact IntIf.of r (fun h => absurd h HR0.out) HB1.out
end Go.Proofs.YthcabnfcgjnlnaaGreatDoor
