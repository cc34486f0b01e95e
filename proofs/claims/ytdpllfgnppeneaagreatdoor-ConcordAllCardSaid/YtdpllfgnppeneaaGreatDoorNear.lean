/-
  The reference's neighbors of a note.
-/
import Derived.Test.YtdpllfgnppeneaaGreatDoorOf39
import Derived.Test.YtdpllfgnppeneaaGreatDoorPlainTexts
import Derived.Test.YtdpllfgnppeneaaGreatDoorRegionA
namespace Go.Proofs.YtdpllfgnppeneaaGreatDoor
open Go.RowKit Ru Lay Srt Col
attribute [local go_sem ↓] Go.wp_at_zero Go.wp_at_succ
set_option linter.unusedVariables false
set_option linter.unusedSimpArgs false

set_option maxHeartbeats 2000000 in
set_option maxRecDepth 100000 in
theorem neighbors_any (d : Dv) (T : List Ti) (l : List Nt) (x : Nt) (w : World) (hL : LightN T l) (hT : TiersR w w.heap.size d.ta d.tn T) (hl : NotesR w w.heap.size d.na d.nn l) (hnn : d.nn ≤ 1000) :
    Calls Tryz.prog 24 #[docV d, noteV x] w fun e w' => ∃ v, e = .returned v ∧ OwnI w' w.heap.size v (nearL T l x) ∧ Below w.heap.size w w' := by
  have HNN := Lib.hid hl.len
  have HG := Lib.hid fun (W : World) (hW : Below w.heap.size w W) (z : Int) => refGet_any d l z W (hl.on hW) (by omega)
  have HOF := Lib.hid fun (W : World) (hW : Below w.heap.size w W) => of39_any d T l x.tier W hL (hT.on hW) (hl.on hW) hnn
  have HL := Lib.hid hL
  clear hT hl hL
  unfold docV getV noteV at HG
  unfold docV at HOF
  unfold docV noteV
  obtain ⟨rid, name, len, day, sa, sn, sc, ta, tn, tc, na, nn, nc⟩ := d
  simp only at *
  go_enter Tryz.func24, Tryz.ntmps24
  go_upto_region 1 with fail
  obtain ⟨W0, hW0⟩ : ∃ W0, ((w.alloc (.cells #[.int .i64 rid, .string name, .int .i64 len, .int .i64 day, .slice sa sn sc, .slice ta tn tc, .slice na nn nc] 28)).alloc (.cells #[.int .i64 x.nid, .int .i64 x.tier, .int .i64 x.parent, .int .i64 x.at1, .int .i64 x.at2, .int .i64 x.rank, .string x.text] 58)) = W0 := ⟨_, rfl⟩
  have HB0 : Hid (Below w.heap.size w W0) := by rw [← hW0]; exact (((Below.refl _ _).alloc (by simp <;> omega) _).alloc (by simp <;> omega) _)
  have hz0 : W0.heap.size = w.heap.size + 2 := by rw [← hW0]; simp
  have HC0 : Hid (∀ X, Below W0.heap.size W0 X → X.rangeAt (w.heap.size) 0 [.int .i64 rid, .string name, .int .i64 len, .int .i64 day, .slice sa sn sc, .slice ta tn tc, .slice na nn nc] ∧ X.rangeAt (w.heap.size + 1) 0 [.int .i64 x.nid, .int .i64 x.tier, .int .i64 x.parent, .int .i64 x.at1, .int .i64 x.at2, .int .i64 x.rank, .string x.text]) := fun X hX => by
    refine ⟨?_, ?_⟩
    · refine range_below hX (by omega) fun j v hv => ?_
      rw [← hW0, Nat.zero_add]; rw [World.cell?_alloc_lt _ _ _ (by simp <;> omega)]; rw [World.cell?_alloc_at _ _ _ _ (by simp), ← hv, ← List.getElem?_toArray]; try rfl
    · refine range_below hX (by omega) fun j v hv => ?_
      rw [← hW0, Nat.zero_add]; rw [World.cell?_alloc_at _ _ _ _ (by simp), ← hv, ← List.getElem?_toArray]; try rfl
  (try rw [hW0])
  clear hW0
  obtain ⟨g0, g1⟩ := HC0.out W0 (Below.refl _ _)
  have k0 : W0.cell? ⟨w.heap.size, 0, none⟩ = some (.int .i64 rid) := g0 0 _ rfl
  have k1 : W0.cell? ⟨w.heap.size, 1, none⟩ = some (.string name) := g0 1 _ rfl
  have k2 : W0.cell? ⟨w.heap.size, 2, none⟩ = some (.int .i64 len) := g0 2 _ rfl
  have k3 : W0.cell? ⟨w.heap.size, 3, none⟩ = some (.int .i64 day) := g0 3 _ rfl
  have k4 : W0.cell? ⟨w.heap.size, 4, none⟩ = some (.slice sa sn sc) := g0 4 _ rfl
  have k5 : W0.cell? ⟨w.heap.size, 5, none⟩ = some (.slice ta tn tc) := g0 5 _ rfl
  have k6 : W0.cell? ⟨w.heap.size, 6, none⟩ = some (.slice na nn nc) := g0 6 _ rfl
  have m1 : W0.cell? ⟨w.heap.size + 1, 1, none⟩ = some (.int .i64 x.tier) := g1 1 _ rfl
  clear g0 g1
  go_wp2_with fail
  refine (HOF.out W0 HB0.out).mono ?_
  rintro e w4 ⟨v4, rfl, h4, hb4⟩
  obtain ⟨ids, hids⟩ : ∃ ids, ofL T l x.tier = ids := ⟨_, rfl⟩
  have hil : ids.length ≤ 1000 := by rw [← hids]; have := ofL_len (T := T) (l := l) (tier := x.tier); have := HNN.out; omega
  have HGT : Hid (∀ z ∈ ids, ∃ y, getN l z = some y ∧ y.nid = z) := fun z hz => ofL_get HL.out (by rw [hids]; exact hz)
  have HNR : Hid (∀ k, ids.length ≤ k → nearK l x ids k = nearL T l x) := fun k hk => by rw [← hids]; exact nearK_all (by rw [hids]; exact hk)
  rw [hids] at h4
  obtain ⟨A, c, rfl, hic, hc63, hir⟩ := OwnI.form h4
  obtain ⟨m, hm⟩ : ∃ m, ids.length = m := ⟨_, rfl⟩
  rw [hm] at hic hil hir HNR ⊢
  have HIR := Lib.hid hir
  have HB4 : Hid (Below w.heap.size w w4) := HB0.out.trans (hb4.mono HB0.out.size)
  have HB04 : Hid (Below W0.heap.size W0 w4) := hb4
  have hsz4 := hb4.size
  clear h4 hb4 hir hids hm k0 k1 k2 k3 k4 k5 k6 m1 HOF
  go_wp2_with fail
  go_loopw [5, 7, 8, 9] (fun v5 v7 _ _ wr => ∃ i : Nat, i ≤ m ∧ v7 = .int .i64 i ∧ Hid (OwnI wr w4.heap.size v5 (nearK l x ids i)) ∧ Hid (Below w4.heap.size w4 wr)) (fun _ v7 _ _ _ => m - (intOf v7).toNat)
  case atStart => exact ⟨0, Nat.zero_le _, rfl, OwnI.nil _ _, Below.refl _ _⟩
  case round =>
    obtain ⟨i, hi, rfl, HO, HB5⟩ := hrel
    obtain ⟨w5, hw5⟩ : ∃ w5, wr = w5 := ⟨_, rfl⟩
    rw [hw5] at HO HB5 ⊢
    clear hw5
    have HBW5 : Hid (Below w.heap.size w w5) := HB4.out.trans (HB5.out.mono HB4.out.size)
    have HB05 : Hid (Below W0.heap.size W0 w5) := HB04.out.trans (HB5.out.mono HB04.out.size)
    by_cases hlt : i < m
    · have hiz : (i : Int) < (m : Int) := by omega
      have hiA : (0 : Int) ≤ (i : Int) := by omega
      have HI := Lib.hid hlt
      obtain ⟨ad, z, rfl, hab, hz, hcz⟩ := HIR.out.at_ hlt
      obtain ⟨y, hy, hyz⟩ := HGT.out z (List.mem_of_getElem? hz)
      have HCW : Hid (∀ W, Below w5.heap.size w5 W → W.cell? (ad.add i) = some (.int .i64 z)) := fun W hW => ((HB5.out.trans (hW.mono HB5.out.size)).cell (by rw [block_of_add]; exact hab)).trans hcz
      have HDW : Hid (∀ W, Below w5.heap.size w5 W → W.rangeAt w.heap.size 0 [.int .i64 rid, .string name, .int .i64 len, .int .i64 day, .slice sa sn sc, .slice ta tn tc, .slice na nn nc]) := fun W hW => (HC0.out W (HB05.out.trans (hW.mono HB05.out.size))).1
      have HGZ : Hid (∀ W, Below w5.heap.size w5 W → Calls Tryz.prog 23 #[.agg #[.int .i64 rid, .string name, .int .i64 len, .int .i64 day, .slice sa sn sc, .slice ta tn tc, .slice na nn nc], .int .i64 z] W fun e w' => e = .returned (.tuple #[.agg #[.int .i64 y.nid, .int .i64 y.tier, .int .i64 y.parent, .int .i64 y.at1, .int .i64 y.at2, .int .i64 y.rank, .string y.text], .bool true]) ∧ Below W.heap.size W w') := fun W hW => by
        have h9 := HG.out W (HBW5.out.trans (hW.mono HBW5.out.size)) z
        rw [hy] at h9
        exact h9
      have HNX : Hid (nearK l x ids (i + 1) = nearK l x ids i ++ (if y.parent = x.parent then [z] else [])) := by
        show _ = _
        rw [nearK_next hz]
        unfold nearP
        rw [hy]
        simp
      have hkl : (nearK l x ids i).length ≤ 1000 := by
        unfold nearK
        have := List.length_filter_le (nearP l x) (ids.take i)
        rw [List.length_take] at this
        omega
      obtain ⟨ks, hks⟩ : ∃ ks, nearK l x ids i = ks := ⟨_, rfl⟩
      rw [hks] at HO HNX hkl
      have HYZ := Lib.hid hyz
      clear hcz hz hy hks hyz
      go_wp2_with fail
      refine wp_region_toldA 9 10 7 [.int .i64 y.nid, .int .i64 y.tier, .int .i64 y.parent, .int .i64 y.at1, .int .i64 y.at2, .int .i64 y.rank, .string y.text] [ToldA.is (.agg #[.int .i64 rid, .string name, .int .i64 len, .int .i64 day, .slice sa sn sc, .slice ta tn tc, .slice na nn nc]), ToldA.is (.slice (some ad) m c), ToldA.is (.int .i64 (i : Int)), ToldA.is (.pointer (some (ad.add i))), ToldA.is (.int .i64 z), ToldA.is (.tuple #[.agg #[.int .i64 y.nid, .int .i64 y.tier, .int .i64 y.parent, .int .i64 y.at1, .int .i64 y.at2, .int .i64 y.rank, .string y.text], .bool true]), ToldA.is (.tuple #[.agg #[.int .i64 y.nid, .int .i64 y.tier, .int .i64 y.parent, .int .i64 y.at1, .int .i64 y.at2, .int .i64 y.rank, .string y.text], .bool true]), ToldA.is (.agg #[.int .i64 y.nid, .int .i64 y.tier, .int .i64 y.parent, .int .i64 y.at1, .int .i64 y.at2, .int .i64 y.rank, .string y.text]), ToldA.is (.bool true), ToldA.new, ToldA.put, ToldA.is (.bool true)] (by omega) (by kernel_rfl) (by kernel_rfl) rfl ?_ ?_
      · refine And.intro (fun wq vals hB hd a1 ha1 K hK => ?_) ?_
        · clear hd
          subst ha1
          simp only [putAll, Act.put, List.setIfInBounds_toArray, List.set_cons_zero, List.set_cons_succ] at hK ⊢
          obtain ⟨ve, hve⟩ : ∃ f : Nat → Value, f = vals := ⟨_, rfl⟩
          rw [← hve] at hK  ⊢
          clear hve
          refine gwp_none rfl ?_
          refine wp_load_mid 28 (.tmp 2) rfl w.heap.size 0 rfl [.int .i64 rid, .string name, .int .i64 len, .int .i64 day, .slice sa sn sc, .slice ta tn tc, .slice na nn nc] _ (HDW.out wq hB) Tryz.underlying28 rfl (by kernel_rfl) ?_
          simp only [Act.put, List.setIfInBounds_toArray, List.set_cons_zero, List.set_cons_succ]
          exact hK _ _ rfl (Below.refl _ _)
        refine And.intro (fun wq vals hB hd a1 ha1 K hK => ?_) ?_
        · clear hd
          subst ha1
          simp only [putAll, Act.put, List.setIfInBounds_toArray, List.set_cons_zero, List.set_cons_succ] at hK ⊢
          obtain ⟨ve, hve⟩ : ∃ f : Nat → Value, f = vals := ⟨_, rfl⟩
          rw [← hve] at hK  ⊢
          clear hve
          refine gwp_none rfl ?_
          go_simp
          exact hK _ _ rfl (Below.refl _ _)
        refine And.intro (fun wq vals hB hd a1 ha1 K hK => ?_) ?_
        · clear hd
          subst ha1
          simp only [putAll, Act.put, List.setIfInBounds_toArray, List.set_cons_zero, List.set_cons_succ] at hK ⊢
          obtain ⟨ve, hve⟩ : ∃ f : Nat → Value, f = vals := ⟨_, rfl⟩
          rw [← hve] at hK  ⊢
          clear hve
          refine gwp_none rfl ?_
          go_simp
          exact hK _ _ rfl (Below.refl _ _)
        refine And.intro (fun wq vals hB hd a1 ha1 K hK => ?_) ?_
        · have e1 : vals 1 = .slice (some ad) m c := toldA_at (hd 1 rfl) rfl
          have e2 : vals 2 = .int .i64 (i : Int) := toldA_at (hd 2 rfl) rfl
          clear hd
          subst ha1
          simp only [putAll, Act.put, List.setIfInBounds_toArray, List.set_cons_zero, List.set_cons_succ] at hK ⊢
          simp only [e1, e2] at hK ⊢
          obtain ⟨ve, hve⟩ : ∃ f : Nat → Value, f = vals := ⟨_, rfl⟩
          rw [← hve] at hK  ⊢
          clear e1 e2 hve
          refine gwp_none rfl ?_
          go_simp
          exact hK _ _ rfl (Below.refl _ _)
        refine And.intro (fun wq vals hB hd a1 ha1 K hK => ?_) ?_
        · have e3 : vals 3 = .pointer (some (ad.add i)) := toldA_at (hd 3 rfl) rfl
          clear hd
          subst ha1
          simp only [putAll, Act.put, List.setIfInBounds_toArray, List.set_cons_zero, List.set_cons_succ] at hK ⊢
          simp only [e3] at hK ⊢
          obtain ⟨ve, hve⟩ : ∃ f : Nat → Value, f = vals := ⟨_, rfl⟩
          rw [← hve] at hK  ⊢
          clear e3 hve
          refine gwp_none rfl ?_
          have hc := HCW.out wq hB
          go_simp
          exact hK _ _ rfl (Below.refl _ _)
        refine And.intro (fun wq vals hB hd a1 ha1 K hK => ?_) ?_
        · have e0 : vals 0 = .agg #[.int .i64 rid, .string name, .int .i64 len, .int .i64 day, .slice sa sn sc, .slice ta tn tc, .slice na nn nc] := toldA_at (hd 0 rfl) rfl
          have e4 : vals 4 = .int .i64 z := toldA_at (hd 4 rfl) rfl
          clear hd
          subst ha1
          simp only [putAll, Act.put, List.setIfInBounds_toArray, List.set_cons_zero, List.set_cons_succ] at hK ⊢
          simp only [e0, e4] at hK ⊢
          obtain ⟨ve, hve⟩ : ∃ f : Nat → Value, f = vals := ⟨_, rfl⟩
          rw [← hve] at hK  ⊢
          clear e0 e4 hve
          refine gwp_none rfl ?_
          go_simp
          refine (HGZ.out wq hB).mono ?_
          rintro e w7 ⟨rfl, hb7⟩
          exact hK _ _ rfl hb7
        refine And.intro (fun wq vals hB hd a1 ha1 K hK => ?_) ?_
        · have e5 : vals 5 = .tuple #[.agg #[.int .i64 y.nid, .int .i64 y.tier, .int .i64 y.parent, .int .i64 y.at1, .int .i64 y.at2, .int .i64 y.rank, .string y.text], .bool true] := toldA_at (hd 5 rfl) rfl
          clear hd
          subst ha1
          simp only [putAll, Act.put, List.setIfInBounds_toArray, List.set_cons_zero, List.set_cons_succ] at hK ⊢
          simp only [e5] at hK ⊢
          obtain ⟨ve, hve⟩ : ∃ f : Nat → Value, f = vals := ⟨_, rfl⟩
          rw [← hve] at hK  ⊢
          clear e5 hve
          refine gwp_none rfl ?_
          go_simp
          exact hK _ _ rfl (Below.refl _ _)
        refine And.intro (fun wq vals hB hd a1 ha1 K hK => ?_) ?_
        · have e6 : vals 6 = .tuple #[.agg #[.int .i64 y.nid, .int .i64 y.tier, .int .i64 y.parent, .int .i64 y.at1, .int .i64 y.at2, .int .i64 y.rank, .string y.text], .bool true] := toldA_at (hd 6 rfl) rfl
          clear hd
          subst ha1
          simp only [putAll, Act.put, List.setIfInBounds_toArray, List.set_cons_zero, List.set_cons_succ] at hK ⊢
          simp only [e6] at hK ⊢
          obtain ⟨ve, hve⟩ : ∃ f : Nat → Value, f = vals := ⟨_, rfl⟩
          rw [← hve] at hK  ⊢
          clear e6 hve
          refine gwp_none rfl ?_
          go_simp
          exact hK _ _ rfl (Below.refl _ _)
        refine And.intro (fun wq vals hB hd a1 ha1 K hK => ?_) ?_
        · have e6 : vals 6 = .tuple #[.agg #[.int .i64 y.nid, .int .i64 y.tier, .int .i64 y.parent, .int .i64 y.at1, .int .i64 y.at2, .int .i64 y.rank, .string y.text], .bool true] := toldA_at (hd 6 rfl) rfl
          clear hd
          subst ha1
          simp only [putAll, Act.put, List.setIfInBounds_toArray, List.set_cons_zero, List.set_cons_succ] at hK ⊢
          simp only [e6] at hK ⊢
          obtain ⟨ve, hve⟩ : ∃ f : Nat → Value, f = vals := ⟨_, rfl⟩
          rw [← hve] at hK  ⊢
          clear e6 hve
          refine gwp_none rfl ?_
          go_simp
          exact hK _ _ rfl (Below.refl _ _)
        refine And.intro (fun wq vals hB hd a1 ha1 K hK => ?_) ?_
        · clear hd
          subst ha1
          simp only [putAll, Act.put, List.setIfInBounds_toArray, List.set_cons_zero, List.set_cons_succ] at hK ⊢
          obtain ⟨ve, hve⟩ : ∃ f : Nat → Value, f = vals := ⟨_, rfl⟩
          rw [← hve] at hK ⊢
          clear hve
          refine gwp_none rfl ?_
          go_simp
          exact hK _ _ ⟨_, rfl, hB.size, by simp, there_new wq _ _⟩ ((Below.refl _ _).alloc (Nat.le_refl _) _)
        refine And.intro (fun wq vals hB hd a1 ha1 K hK => ?_) ?_
        · have e7 : vals 7 = .agg #[.int .i64 y.nid, .int .i64 y.tier, .int .i64 y.parent, .int .i64 y.at1, .int .i64 y.at2, .int .i64 y.rank, .string y.text] := toldA_at (hd 7 rfl) rfl
          have p9 : NewAt 7 _ (vals 9) _ := toldA_at (t := ToldA.new) (hd 9 rfl) rfl
          clear hd
          refine gwp_none rfl ?_
          obtain ⟨bN, hvN, h0N, h1N, hth⟩ := p9
          have hev1 : a1.eval (.tmp 8) = .pointer (some ⟨bN, 0, none⟩) := by rw [ha1]; exact (eval_slot (i := 9) (by kernel_rfl) (by kernel_rfl) rfl).trans hvN
          have hev2 : a1.eval (.tmp 27) = .agg #[.int .i64 y.nid, .int .i64 y.tier, .int .i64 y.parent, .int .i64 y.at1, .int .i64 y.at2, .int .i64 y.rank, .string y.text] := by rw [ha1]; exact (eval_slot (i := 7) (by kernel_rfl) (by kernel_rfl) rfl).trans e7
          clear ha1
          obtain ⟨wS, hwS⟩ : ∃ wS, wq.setCells bN 0 (#[.int .i64 y.nid, .int .i64 y.tier, .int .i64 y.parent, .int .i64 y.at1, .int .i64 y.at2, .int .i64 y.rank, .string y.text] : Array Value).toList = wS := ⟨_, rfl⟩
          have hX : BelowX bN wq wS := by rw [← hwS]; exact BelowX.set _ _ _
          have hR : wS.rangeAt bN 0 [.int .i64 y.nid, .int .i64 y.tier, .int .i64 y.parent, .int .i64 y.at1, .int .i64 y.at2, .int .i64 y.rank, .string y.text] := by rw [← hwS]; exact World.rangeAt_setCells_same wq bN 0 [.int .i64 y.nid, .int .i64 y.tier, .int .i64 y.parent, .int .i64 y.at1, .int .i64 y.at2, .int .i64 y.rank, .string y.text] hth
          refine wp_store_mid 58 (.tmp 8) (.tmp 27) rfl bN 0 #[.int .i64 y.nid, .int .i64 y.tier, .int .i64 y.parent, .int .i64 y.at1, .int .i64 y.at2, .int .i64 y.rank, .string y.text] hev1 hev2 hth (by kernel_rfl) (by simp [Value.oneCell']) ?_
          rw [hwS]
          exact hK undef wS trivial ⟨by kernel_rfl, bN, hvN, h0N, h1N, hX, hR⟩
        refine And.intro (fun wq vals hB hd a1 ha1 K hK => ?_) ?_
        · have e8 : vals 8 = .bool true := toldA_at (hd 8 rfl) rfl
          clear hd
          subst ha1
          simp only [putAll, Act.put, List.setIfInBounds_toArray, List.set_cons_zero, List.set_cons_succ] at hK ⊢
          simp only [e8] at hK ⊢
          obtain ⟨ve, hve⟩ : ∃ f : Nat → Value, f = vals := ⟨_, rfl⟩
          rw [← hve] at hK  ⊢
          clear e8 hve
          refine gwp_none rfl ?_
          go_simp
          exact hK _ _ rfl (Below.refl _ _)
        exact trivial
      · intro w1r vals hB hd hfl
        have e11 : vals 11 = .bool true := toldA_at (hd 11 (by decide)) rfl
        obtain ⟨bN, hvN, h0N, h1N, hrN⟩ := hfl (by decide)
        clear hfl
        clear hd
        simp only [putAll, Act.put, List.setIfInBounds_toArray, List.set_cons_zero, List.set_cons_succ]
        simp only [e11, hvN]
        obtain ⟨ve, hve⟩ : ∃ f : Nat → Value, f = vals := ⟨_, rfl⟩
        rw [← hve]
        clear e11 hvN hve
        have HB46 : Hid (Below w4.heap.size w4 w1r) := HB5.out.trans (hB.mono HB5.out.size)
        have g1 := (HC0.out w1r (HB05.out.trans (hB.mono HB05.out.size))).2
        have m2 : w1r.cell? ⟨w.heap.size + 1, 2, none⟩ = some (.int .i64 x.parent) := g1 2 _ rfl
        have r0 : w1r.cell? ⟨bN, 0, none⟩ = some (.int .i64 y.nid) := hrN 0 _ rfl
        have r2 : w1r.cell? ⟨bN, 2, none⟩ = some (.int .i64 y.parent) := hrN 2 _ rfl
        have HO6 : Hid (OwnI w1r w4.heap.size u5 ks) := HO.out.on hB
        have hsz6 := HB46.out.size
        clear g1 hrN hB h0N h1N HCW HDW HGZ HO
        by_cases hp : y.parent = x.parent
        · have hpb : (y.parent == x.parent) = true := beq_iff_eq.2 hp
          have HN2 : Hid (nearK l x ids (i + 1) = ks ++ [y.nid]) := by show _ = _; rw [HNX.out, if_pos hp, HYZ.out]
          have HO7 : Hid (World.ownsRow w1r w4.heap.size 3 1 u5 ks.length (intV ks)) := HO6.out
          clear hp HNX HO6
          go_wp2_with (at_builtin; refine wpList_app1 rfl (.tmp 34) (.tmp 37) 22 rfl w4.heap.size 3 8 (.int .i64 0) info_int rfl Tryz.underlying22 rfl HO7.out rfl rfl (by omega) (by omega) hsz6 ?_; rintro v8 w7 hown7 hb7 _ _)
          have HO8 : Hid (OwnI w7 w4.heap.size v8 (nearK l x ids (i + 1))) := by
            show OwnI _ _ _ _
            rw [HN2.out]
            exact own_i hown7
          have HB7 : Hid (Below w4.heap.size w4 w7) := HB46.out.trans hb7
          clear hown7 hb7 HO7
          go_wp2
          go_roundw
          case rel => exact ⟨i + 1, HI.out, by go_num, HO8, HB7⟩
          case measure => have := HI.out; simp [intOf]; omega
        · have hpb : (y.parent == x.parent) = false := beq_eq_false_iff_ne.2 hp
          have HO8 : Hid (OwnI w1r w4.heap.size u5 (nearK l x ids (i + 1))) := by
            show OwnI _ _ _ _
            rw [HNX.out, if_neg hp, List.append_nil]
            exact HO6.out
          clear hp HNX HO6
          go_wp2
          go_roundw
          case rel => exact ⟨i + 1, HI.out, by go_num, HO8, HB46⟩
          case measure => have := HI.out; simp [intOf]; omega
    · obtain rfl : m = i := by omega
      have hiz : ¬ (m : Int) < (m : Int) := by omega
      have HF : Hid (OwnI w5 w.heap.size u5 (nearL T l x)) := by
        have h9 := HO.out
        rw [HNR.out m (Nat.le_refl _)] at h9
        exact own_base h9 (by omega)
      go_wp2
      go_ret
      exact ⟨_, rfl, HF.out, HBW5.out⟩
end Go.Proofs.YtdpllfgnppeneaaGreatDoor
