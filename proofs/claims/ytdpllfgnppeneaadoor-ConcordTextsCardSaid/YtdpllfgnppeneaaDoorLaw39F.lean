/-
  ConcordTexts: the law, walked.
-/
import Derived.Test.YtdpllfgnppeneaaDoorLaw39A
import Derived.Test.YtdpllfgnppeneaaDoorCheck12
import Derived.Test.YtdpllfgnppeneaaDoorOf39
import Derived.Test.YtdpllfgnppeneaaDoorPlainTexts
import Derived.Test.YtdpllfgnppeneaaDoorRegionA
import Derived.Lib.MinMax
namespace Go.Proofs.YtdpllfgnppeneaaDoor
open Go.RowKit Ru Lay Srt Col
attribute [local go_sem ↓] Go.wp_at_zero Go.wp_at_succ
set_option linter.unusedVariables false
set_option linter.unusedSimpArgs false

theorem one_strs (l : List ByteArray) : ∀ u ∈ l.map Value.string, u.oneCell' = true := by
  intro u hu
  obtain ⟨s, _, rfl⟩ := List.mem_map.1 hu
  rfl
theorem ofL_get {T : List Ti} {l : List Nt} {tier z : Int} (hL : LightN T l) (h : z ∈ ofL T l tier) : ∃ y, getN l z = some y ∧ y.nid = z := by
  unfold ofL at h
  obtain ⟨y, hy, rfl⟩ := List.mem_map.1 h
  have := (ofK_mem (Nat.le_refl _) hy).1
  rw [List.take_length] at this
  exact ⟨y, hL.get this, rfl⟩
theorem ofL_len {T : List Ti} {l : List Nt} {tier : Int} : (ofL T l tier).length ≤ l.length := by
  unfold ofL
  rw [List.length_map, (ofK_perm l.length (Nat.le_refl _)).length_eq, List.take_length]
  exact List.length_filter_le _ _
set_option maxHeartbeats 2000000 in
set_option maxRecDepth 100000 in
theorem concordTexts_any (d : Dv) (T : List Ti) (l : List Nt) (id n : Int) (w : World) (hT : TiersR w w.heap.size d.ta d.tn T) (hl : NotesR w w.heap.size d.na d.nn l) (hnn : d.nn ≤ 9223372036854775807) (htb : Tabs w) :
    Calls Tryd.prog 7 #[docV d, .int .i64 id, .int .i64 n] w fun e w' => e = .returned (.bool true) ∧ Below w.heap.size w w' := by
  have HAW := Lib.hid fun (W : World) (hW : Below w.heap.size w W) => awake39_any W (htb.on hW)
  have HTN := Lib.hid hT.len
  have HNN := Lib.hid hl.len
  have HG := Lib.hid fun (W : World) (hW : Below w.heap.size w W) (z : Int) => refGet_any d l z W (hl.on hW) hnn
  have HLT := Lib.hid fun (W : World) (hW : Below w.heap.size w W) => light_any d T l W (hT.on hW) (hl.on hW)
  have HOF := Lib.hid fun (hL : LightN T l) (h14 : d.nn ≤ 14) (t : Int) (W : World) (hW : Below w.heap.size w W) => of39_any d T l t W hL (hT.on hW) (hl.on hW) (by omega)
  have HHI := Lib.hid fun (hL : LightN T l) (h14 : d.nn ≤ 14) (h6 : d.tn ≤ 6) (W : World) (hW : Below w.heap.size w W) => hit_any d l id n W (hl.on hW) (by omega) (by omega) (by rw [← hT.len]; exact hL.tier)
  clear hT hl htb
  unfold docV getV noteV at HG
  unfold docV at HLT HOF HHI
  unfold docV
  obtain ⟨rid, name, len, day, sa, sn, sc, ta, tn, tc, na, nn, nc⟩ := d
  simp only at *
  go_enter Tryd.func7, Tryd.ntmps7
  go_upto_region 1 with fail
  obtain ⟨W0, hW0⟩ : ∃ W0, (w.alloc (.cells #[.int .i64 rid, .string name, .int .i64 len, .int .i64 day, .slice sa sn sc, .slice ta tn tc, .slice na nn nc] 51)) = W0 := ⟨_, rfl⟩
  have HB0 : Hid (Below w.heap.size w W0) := by rw [← hW0]; exact ((Below.refl _ _).alloc (by simp <;> omega) _)
  have hz0 : W0.heap.size = w.heap.size + 1 := by rw [← hW0]; simp
  have HC0 : Hid (∀ X, Below W0.heap.size W0 X → X.rangeAt (w.heap.size) 0 [.int .i64 rid, .string name, .int .i64 len, .int .i64 day, .slice sa sn sc, .slice ta tn tc, .slice na nn nc]) := fun X hX => by
    refine range_below hX (by omega) fun j v hv => ?_
    rw [← hW0, Nat.zero_add]; rw [World.cell?_alloc_at _ _ _ _ (by simp), ← hv, ← List.getElem?_toArray]; try rfl
  (try rw [hW0])
  clear hW0
  have g0 := HC0.out W0 (Below.refl _ _)
  have k0 : W0.cell? ⟨w.heap.size, 0, none⟩ = some (.int .i64 rid) := g0 0 _ rfl
  have k1 : W0.cell? ⟨w.heap.size, 1, none⟩ = some (.string name) := g0 1 _ rfl
  have k2 : W0.cell? ⟨w.heap.size, 2, none⟩ = some (.int .i64 len) := g0 2 _ rfl
  have k3 : W0.cell? ⟨w.heap.size, 3, none⟩ = some (.int .i64 day) := g0 3 _ rfl
  have k4 : W0.cell? ⟨w.heap.size, 4, none⟩ = some (.slice sa sn sc) := g0 4 _ rfl
  have k5 : W0.cell? ⟨w.heap.size, 5, none⟩ = some (.slice ta tn tc) := g0 5 _ rfl
  have k6 : W0.cell? ⟨w.heap.size, 6, none⟩ = some (.slice na nn nc) := g0 6 _ rfl
  clear g0
  have HG1 := Lib.hid (HG.out W0 HB0.out id)
  obtain ⟨og, hog⟩ : ∃ og, getN l id = og := ⟨_, rfl⟩
  have HOG := Lib.hid hog
  rw [hog] at HG1
  clear hog
  obtain ⟨x, hx⟩ : ∃ x, og.getD nt0 = x := ⟨_, rfl⟩
  obtain ⟨ob, hob⟩ : ∃ ob, og.isSome = ob := ⟨_, rfl⟩
  rw [hx, hob] at HG1
  have HX := Lib.hid hx
  have HOB := Lib.hid hob
  clear hx hob
  go_wp2_with fail
  refine HG1.out.mono ?_
  rintro e w1 ⟨rfl, hb1⟩
  have HB01 : Hid (Below W0.heap.size W0 w1) := hb1
  have HB1 : Hid (Below w.heap.size w w1) := HB0.out.trans (hb1.mono HB0.out.size)
  clear hb1 HG1 k0 k1 k2 k3 k4 k5 k6
  go_upto_region 2 with fail
  obtain ⟨W2, hW2⟩ : ∃ W2, (w1.alloc (.cells #[.int .i64 x.nid, .int .i64 x.tier, .int .i64 x.parent, .int .i64 x.at1, .int .i64 x.at2, .int .i64 x.rank, .string x.text] 55)) = W2 := ⟨_, rfl⟩
  have HB2 : Hid (Below w1.heap.size w1 W2) := by rw [← hW2]; exact ((Below.refl _ _).alloc (by simp <;> omega) _)
  have hz2 : W2.heap.size = w1.heap.size + 1 := by rw [← hW2]; simp
  have HC2 : Hid (∀ X, Below W2.heap.size W2 X → X.rangeAt (w1.heap.size) 0 [.int .i64 x.nid, .int .i64 x.tier, .int .i64 x.parent, .int .i64 x.at1, .int .i64 x.at2, .int .i64 x.rank, .string x.text]) := fun X hX => by
    refine range_below hX (by omega) fun j v hv => ?_
    rw [← hW2, Nat.zero_add]; rw [World.cell?_alloc_at _ _ _ _ (by simp), ← hv, ← List.getElem?_toArray]; try rfl
  (try rw [hW2])
  clear hW2
  have HB02 : Hid (Below W0.heap.size W0 W2) := HB01.out.trans (HB2.out.mono HB01.out.size)
  have HBW2 : Hid (Below w.heap.size w W2) := HB1.out.trans (HB2.out.mono HB1.out.size)
  have g0 := HC0.out W2 HB02.out
  have k0 : W2.cell? ⟨w.heap.size, 0, none⟩ = some (.int .i64 rid) := g0 0 _ rfl
  have k1 : W2.cell? ⟨w.heap.size, 1, none⟩ = some (.string name) := g0 1 _ rfl
  have k2 : W2.cell? ⟨w.heap.size, 2, none⟩ = some (.int .i64 len) := g0 2 _ rfl
  have k3 : W2.cell? ⟨w.heap.size, 3, none⟩ = some (.int .i64 day) := g0 3 _ rfl
  have k4 : W2.cell? ⟨w.heap.size, 4, none⟩ = some (.slice sa sn sc) := g0 4 _ rfl
  have k5 : W2.cell? ⟨w.heap.size, 5, none⟩ = some (.slice ta tn tc) := g0 5 _ rfl
  have k6 : W2.cell? ⟨w.heap.size, 6, none⟩ = some (.slice na nn nc) := g0 6 _ rfl
  clear g0
  go_wp2_with fail
  refine (HLT.out W2 HBW2.out).mono ?_
  rintro e w3 ⟨b, rfl, hlf, hb3⟩
  have HLF := Lib.hid hlf
  have HB23 : Hid (Below W2.heap.size W2 w3) := hb3
  have HB3 : Hid (Below w.heap.size w w3) := HBW2.out.trans (hb3.mono HBW2.out.size)
  clear hb3 hlf k0 k1 k2 k3 k4 k5 k6 HLT
  cases b with
  | false =>
    go_wp2_with fail
    refine (HAW.out _ HB3.out).mono ?_
    rintro e w5 ⟨rfl, hb5⟩
    have HB5 : Hid (Below w.heap.size w w5) := HB3.out.trans (hb5.mono HB3.out.size)
    clear hb5
    go_wp2
    go_ret
    exact ⟨rfl, HB5.out⟩
  | true =>
    obtain ⟨⟨h14, h6⟩, hL⟩ := HLF.out rfl
    have HL := Lib.hid hL
    have HOF2 := Lib.hid (HOF.out hL h14)
    have HHI2 := Lib.hid (HHI.out hL h14 h6)
    clear hL HLF HOF HHI
    cases ob with
    | false =>
      go_wp2_with fail
      refine (HAW.out _ HB3.out).mono ?_
      rintro e w5 ⟨rfl, hb5⟩
      have HB5 : Hid (Below w.heap.size w w5) := HB3.out.trans (hb5.mono HB3.out.size)
      clear hb5
      go_wp2
      go_ret
      exact ⟨rfl, HB5.out⟩
    | true =>
      have HGX : Hid (getN l id = some x) := by
        show _ = _
        rw [HOG.out]
        have h1 := HX.out
        have h2 := HOB.out
        cases og with
        | none => cases h2
        | some y => exact congrArg some h1
      by_cases hn0 : n < 0
      · have hn0d : decide (n < 0) = true := decide_eq_true hn0
        go_wp2_with fail
        refine (HAW.out _ HB3.out).mono ?_
        rintro e w5 ⟨rfl, hb5⟩
        have HB5 : Hid (Below w.heap.size w w5) := HB3.out.trans (hb5.mono HB3.out.size)
        clear hb5
        go_wp2
        go_ret
        exact ⟨rfl, HB5.out⟩
      · have hn0d : decide (n < 0) = false := decide_eq_false hn0
        by_cases hn20 : 20 < n
        · have hn20d : decide (20 < n) = true := decide_eq_true hn20
          go_wp2_with fail
          refine (HAW.out _ HB3.out).mono ?_
          rintro e w5 ⟨rfl, hb5⟩
          have HB5 : Hid (Below w.heap.size w w5) := HB3.out.trans (hb5.mono HB3.out.size)
          clear hb5
          go_wp2
          go_ret
          exact ⟨rfl, HB5.out⟩
        · have hn20d : decide (20 < n) = false := decide_eq_false hn20
          obtain ⟨N, hN⟩ : ∃ N : Nat, n = (N : Int) := ⟨n.toNat, by omega⟩
          have hN20 : N ≤ 20 := by omega
          have HN := Lib.hid hN
          have g0 := HC0.out w3 (HB02.out.trans (HB23.out.mono HB02.out.size))
          have k0 : w3.cell? ⟨w.heap.size, 0, none⟩ = some (.int .i64 rid) := g0 0 _ rfl
          have k1 : w3.cell? ⟨w.heap.size, 1, none⟩ = some (.string name) := g0 1 _ rfl
          have k2 : w3.cell? ⟨w.heap.size, 2, none⟩ = some (.int .i64 len) := g0 2 _ rfl
          have k3 : w3.cell? ⟨w.heap.size, 3, none⟩ = some (.int .i64 day) := g0 3 _ rfl
          have k4 : w3.cell? ⟨w.heap.size, 4, none⟩ = some (.slice sa sn sc) := g0 4 _ rfl
          have k5 : w3.cell? ⟨w.heap.size, 5, none⟩ = some (.slice ta tn tc) := g0 5 _ rfl
          have k6 : w3.cell? ⟨w.heap.size, 6, none⟩ = some (.slice na nn nc) := g0 6 _ rfl
          have g1 := HC2.out w3 HB23.out
          have m1 : w3.cell? ⟨w1.heap.size, 1, none⟩ = some (.int .i64 x.tier) := g1 1 _ rfl
          clear g0 g1 hN
          go_wp2_with fail
          refine (HOF2.out x.tier w3 HB3.out).mono ?_
          rintro e w4 ⟨v4, rfl, h4, hb4⟩
          obtain ⟨ids, hids⟩ : ∃ ids, ofL T l x.tier = ids := ⟨_, rfl⟩
          have hil : ids.length ≤ 14 := by rw [← hids]; have := ofL_len (T := T) (l := l) (tier := x.tier); have := HNN.out; omega
          have HND : Hid (ids.Nodup) := by rw [← hids]; exact ofL_nodup HL.out
          have HGT : Hid (∀ z ∈ ids, ∃ y, getN l z = some y ∧ y.nid = z) := fun z hz => ofL_get HL.out (by rw [hids]; exact hz)
          have HNR : Hid (∀ k, ids.length ≤ k → nearK l x ids k = nearL T l x) := fun k hk => by rw [← hids]; exact nearK_all (by rw [hids]; exact hk)
          rw [hids] at h4
          obtain ⟨A, c, rfl, hic, hc63, hir⟩ := OwnI.form h4
          obtain ⟨m, hm⟩ : ∃ m, ids.length = m := ⟨_, rfl⟩
          rw [hm] at hic hil hir HNR ⊢
          have HML := Lib.hid hm
          have HIR := Lib.hid hir
          have HB4 : Hid (Below w.heap.size w w4) := HB3.out.trans (hb4.mono HB3.out.size)
          have HB24 : Hid (Below W2.heap.size W2 w4) := HB23.out.trans (hb4.mono HB23.out.size)
          clear h4 hb4 hir hids hm k0 k1 k2 k3 k4 k5 k6 m1 HOF2
          go_wp2_with fail
          go_loopw [9, 10, 12, 13, 14] (fun v9 v10 v12 _ _ wr => ∃ i a : Nat, i ≤ m ∧ v12 = .int .i64 i ∧ v10 = .int .i64 a ∧ Hid (OwnS wr w4.heap.size v9 (textsN l (nearK l x ids i))) ∧ Hid (AtOK (nearK l x ids i) id a) ∧ Hid (Below w4.heap.size w4 wr)) (fun _ _ v12 _ _ _ => m - (intOf v12).toNat)
          case atStart => exact ⟨0, 0, Nat.zero_le _, rfl, rfl, OwnS.nil _ _, atOK_nil _, Below.refl _ _⟩
          case round =>
            obtain ⟨i, a, hi, rfl, rfl, HO, HAT, HB5⟩ := hrel
            obtain ⟨w5, hw5⟩ : ∃ w5, wr = w5 := ⟨_, rfl⟩
            rw [hw5] at HO HB5 ⊢
            clear hw5
            have HBW5 : Hid (Below w.heap.size w w5) := HB4.out.trans (HB5.out.mono HB4.out.size)
            have HB25 : Hid (Below W2.heap.size W2 w5) := HB24.out.trans (HB5.out.mono HB24.out.size)
            have HB05 : Hid (Below W0.heap.size W0 w5) := HB02.out.trans (HB25.out.mono HB02.out.size)
            by_cases hlt : i < m
            · have hiz : (i : Int) < (m : Int) := by omega
              have hiA : (0 : Int) ≤ (i : Int) := by omega
              have HI := Lib.hid hlt
              obtain ⟨ad, z, rfl, hab, hz, hcz⟩ := HIR.out.at_ hlt
              obtain ⟨y, hy, hyz⟩ := HGT.out z (List.mem_of_getElem? hz)
              have HCW : Hid (∀ W, Below w5.heap.size w5 W → W.cell? (ad.add i) = some (.int .i64 z)) := fun W hW => ((HB5.out.trans (hW.mono HB5.out.size)).cell (by rw [block_of_add]; exact hab)).trans hcz
              have HDW : Hid (∀ W, Below w5.heap.size w5 W → W.rangeAt w.heap.size 0 [.int .i64 rid, .string name, .int .i64 len, .int .i64 day, .slice sa sn sc, .slice ta tn tc, .slice na nn nc]) := fun W hW => HC0.out W (HB05.out.trans (hW.mono HB05.out.size))
              have HGZ : Hid (∀ W, Below w5.heap.size w5 W → Calls Tryd.prog 20 #[.agg #[.int .i64 rid, .string name, .int .i64 len, .int .i64 day, .slice sa sn sc, .slice ta tn tc, .slice na nn nc], .int .i64 z] W fun e w' => e = .returned (.tuple #[.agg #[.int .i64 y.nid, .int .i64 y.tier, .int .i64 y.parent, .int .i64 y.at1, .int .i64 y.at2, .int .i64 y.rank, .string y.text], .bool true]) ∧ Below W.heap.size W w') := fun W hW => by
                have h9 := HG.out W (HBW5.out.trans (hW.mono HBW5.out.size)) z
                rw [hy] at h9
                exact h9
              have HNX : Hid (nearK l x ids (i + 1) = nearK l x ids i ++ (if y.parent = x.parent then [z] else [])) := by
                show _ = _
                rw [nearK_next hz]
                unfold nearP
                rw [hy]
                simp
              have HFR : Hid (z ∉ nearK l x ids i) := nearK_fresh HND.out hz
              have HTZ : Hid (textN l z = y.text) := by show _ = _; unfold textN; rw [hy]; rfl
              have hkl : (textsN l (nearK l x ids i)).length ≤ 14 := by
                rw [texts_len]
                unfold nearK
                have := List.length_filter_le (nearP l x) (ids.take i)
                rw [List.length_take] at this
                omega
              obtain ⟨ks, hks⟩ : ∃ ks, nearK l x ids i = ks := ⟨_, rfl⟩
              rw [hks] at HO HAT HNX HFR hkl
              have HYZ := Lib.hid hyz
              clear hcz hz hy hks hyz
              go_wp2_with fail
              refine wp_region_toldA 9 10 7 [.int .i64 y.nid, .int .i64 y.tier, .int .i64 y.parent, .int .i64 y.at1, .int .i64 y.at2, .int .i64 y.rank, .string y.text] [ToldA.is (.agg #[.int .i64 rid, .string name, .int .i64 len, .int .i64 day, .slice sa sn sc, .slice ta tn tc, .slice na nn nc]), ToldA.is (.slice (some ad) m c), ToldA.is (.int .i64 (i : Int)), ToldA.is (.pointer (some (ad.add i))), ToldA.is (.int .i64 z), ToldA.is (.tuple #[.agg #[.int .i64 y.nid, .int .i64 y.tier, .int .i64 y.parent, .int .i64 y.at1, .int .i64 y.at2, .int .i64 y.rank, .string y.text], .bool true]), ToldA.is (.tuple #[.agg #[.int .i64 y.nid, .int .i64 y.tier, .int .i64 y.parent, .int .i64 y.at1, .int .i64 y.at2, .int .i64 y.rank, .string y.text], .bool true]), ToldA.is (.agg #[.int .i64 y.nid, .int .i64 y.tier, .int .i64 y.parent, .int .i64 y.at1, .int .i64 y.at2, .int .i64 y.rank, .string y.text]), ToldA.is (.bool true), ToldA.new, ToldA.put, ToldA.is (.bool true)] (by omega) (by kernel_rfl) (by kernel_rfl) rfl ?_ ?_
              · refine And.intro (fun wq vals hB hd a1 ha1 K hK => ?_) ?_
                · clear hd
                  subst ha1
                  simp only [putAll, Act.put, List.setIfInBounds_toArray, List.set_cons_zero, List.set_cons_succ] at hK ⊢
                  obtain ⟨ve, hve⟩ : ∃ f : Nat → Value, f = vals := ⟨_, rfl⟩
                  rw [← hve] at hK  ⊢
                  clear hve
                  refine gwp_none rfl ?_
                  refine wp_load_mid 51 (.tmp 3) rfl w.heap.size 0 rfl [.int .i64 rid, .string name, .int .i64 len, .int .i64 day, .slice sa sn sc, .slice ta tn tc, .slice na nn nc] _ (HDW.out wq hB) Tryd.underlying51 rfl (by kernel_rfl) ?_
                  simp only [Act.put, List.setIfInBounds_toArray, List.set_cons_zero, List.set_cons_succ]
                  exact hK _ _ rfl (Below.refl _ _)
                refine And.intro (fun wq vals hB hd a1 ha1 K hK => ?_) ?_
                · clear hd
                  subst ha1
                  simp only [putAll, Act.put, List.setIfInBounds_toArray, List.set_cons_zero, List.set_cons_succ] at hK ⊢
                  obtain ⟨ve, hve⟩ : ∃ f : Nat → Value, f = vals := ⟨_, rfl⟩
                  rw [← hve] at hK  ⊢
                  clear hve
                  refine gwp_none rfl ?_
                  go_simp
                  exact hK _ _ rfl (Below.refl _ _)
                refine And.intro (fun wq vals hB hd a1 ha1 K hK => ?_) ?_
                · clear hd
                  subst ha1
                  simp only [putAll, Act.put, List.setIfInBounds_toArray, List.set_cons_zero, List.set_cons_succ] at hK ⊢
                  obtain ⟨ve, hve⟩ : ∃ f : Nat → Value, f = vals := ⟨_, rfl⟩
                  rw [← hve] at hK  ⊢
                  clear hve
                  refine gwp_none rfl ?_
                  go_simp
                  exact hK _ _ rfl (Below.refl _ _)
                refine And.intro (fun wq vals hB hd a1 ha1 K hK => ?_) ?_
                · have e1 : vals 1 = .slice (some ad) m c := toldA_at (hd 1 rfl) rfl
                  have e2 : vals 2 = .int .i64 (i : Int) := toldA_at (hd 2 rfl) rfl
                  clear hd
                  subst ha1
                  simp only [putAll, Act.put, List.setIfInBounds_toArray, List.set_cons_zero, List.set_cons_succ] at hK ⊢
                  simp only [e1, e2] at hK ⊢
                  obtain ⟨ve, hve⟩ : ∃ f : Nat → Value, f = vals := ⟨_, rfl⟩
                  rw [← hve] at hK  ⊢
                  clear e1 e2 hve
                  refine gwp_none rfl ?_
                  go_simp
                  exact hK _ _ rfl (Below.refl _ _)
                refine And.intro (fun wq vals hB hd a1 ha1 K hK => ?_) ?_
                · have e3 : vals 3 = .pointer (some (ad.add i)) := toldA_at (hd 3 rfl) rfl
                  clear hd
                  subst ha1
                  simp only [putAll, Act.put, List.setIfInBounds_toArray, List.set_cons_zero, List.set_cons_succ] at hK ⊢
                  simp only [e3] at hK ⊢
                  obtain ⟨ve, hve⟩ : ∃ f : Nat → Value, f = vals := ⟨_, rfl⟩
                  rw [← hve] at hK  ⊢
                  clear e3 hve
                  refine gwp_none rfl ?_
                  have hc := HCW.out wq hB
                  go_simp
                  exact hK _ _ rfl (Below.refl _ _)
                refine And.intro (fun wq vals hB hd a1 ha1 K hK => ?_) ?_
                · have e0 : vals 0 = .agg #[.int .i64 rid, .string name, .int .i64 len, .int .i64 day, .slice sa sn sc, .slice ta tn tc, .slice na nn nc] := toldA_at (hd 0 rfl) rfl
                  have e4 : vals 4 = .int .i64 z := toldA_at (hd 4 rfl) rfl
                  clear hd
                  subst ha1
                  simp only [putAll, Act.put, List.setIfInBounds_toArray, List.set_cons_zero, List.set_cons_succ] at hK ⊢
                  simp only [e0, e4] at hK ⊢
                  obtain ⟨ve, hve⟩ : ∃ f : Nat → Value, f = vals := ⟨_, rfl⟩
                  rw [← hve] at hK  ⊢
                  clear e0 e4 hve
                  refine gwp_none rfl ?_
                  go_simp
                  refine (HGZ.out wq hB).mono ?_
                  rintro e w7 ⟨rfl, hb7⟩
                  exact hK _ _ rfl hb7
                refine And.intro (fun wq vals hB hd a1 ha1 K hK => ?_) ?_
                · have e5 : vals 5 = .tuple #[.agg #[.int .i64 y.nid, .int .i64 y.tier, .int .i64 y.parent, .int .i64 y.at1, .int .i64 y.at2, .int .i64 y.rank, .string y.text], .bool true] := toldA_at (hd 5 rfl) rfl
                  clear hd
                  subst ha1
                  simp only [putAll, Act.put, List.setIfInBounds_toArray, List.set_cons_zero, List.set_cons_succ] at hK ⊢
                  simp only [e5] at hK ⊢
                  obtain ⟨ve, hve⟩ : ∃ f : Nat → Value, f = vals := ⟨_, rfl⟩
                  rw [← hve] at hK  ⊢
                  clear e5 hve
                  refine gwp_none rfl ?_
                  go_simp
                  exact hK _ _ rfl (Below.refl _ _)
                refine And.intro (fun wq vals hB hd a1 ha1 K hK => ?_) ?_
                · have e6 : vals 6 = .tuple #[.agg #[.int .i64 y.nid, .int .i64 y.tier, .int .i64 y.parent, .int .i64 y.at1, .int .i64 y.at2, .int .i64 y.rank, .string y.text], .bool true] := toldA_at (hd 6 rfl) rfl
                  clear hd
                  subst ha1
                  simp only [putAll, Act.put, List.setIfInBounds_toArray, List.set_cons_zero, List.set_cons_succ] at hK ⊢
                  simp only [e6] at hK ⊢
                  obtain ⟨ve, hve⟩ : ∃ f : Nat → Value, f = vals := ⟨_, rfl⟩
                  rw [← hve] at hK  ⊢
                  clear e6 hve
                  refine gwp_none rfl ?_
                  go_simp
                  exact hK _ _ rfl (Below.refl _ _)
                refine And.intro (fun wq vals hB hd a1 ha1 K hK => ?_) ?_
                · have e6 : vals 6 = .tuple #[.agg #[.int .i64 y.nid, .int .i64 y.tier, .int .i64 y.parent, .int .i64 y.at1, .int .i64 y.at2, .int .i64 y.rank, .string y.text], .bool true] := toldA_at (hd 6 rfl) rfl
                  clear hd
                  subst ha1
                  simp only [putAll, Act.put, List.setIfInBounds_toArray, List.set_cons_zero, List.set_cons_succ] at hK ⊢
                  simp only [e6] at hK ⊢
                  obtain ⟨ve, hve⟩ : ∃ f : Nat → Value, f = vals := ⟨_, rfl⟩
                  rw [← hve] at hK  ⊢
                  clear e6 hve
                  refine gwp_none rfl ?_
                  go_simp
                  exact hK _ _ rfl (Below.refl _ _)
                refine And.intro (fun wq vals hB hd a1 ha1 K hK => ?_) ?_
                · clear hd
                  subst ha1
                  simp only [putAll, Act.put, List.setIfInBounds_toArray, List.set_cons_zero, List.set_cons_succ] at hK ⊢
                  obtain ⟨ve, hve⟩ : ∃ f : Nat → Value, f = vals := ⟨_, rfl⟩
                  rw [← hve] at hK ⊢
                  clear hve
                  refine gwp_none rfl ?_
                  go_simp
                  exact hK _ _ ⟨_, rfl, hB.size, by simp, there_new wq _ _⟩ ((Below.refl _ _).alloc (Nat.le_refl _) _)
                refine And.intro (fun wq vals hB hd a1 ha1 K hK => ?_) ?_
                · have e7 : vals 7 = .agg #[.int .i64 y.nid, .int .i64 y.tier, .int .i64 y.parent, .int .i64 y.at1, .int .i64 y.at2, .int .i64 y.rank, .string y.text] := toldA_at (hd 7 rfl) rfl
                  have p9 : NewAt 7 _ (vals 9) _ := toldA_at (t := ToldA.new) (hd 9 rfl) rfl
                  clear hd
                  refine gwp_none rfl ?_
                  obtain ⟨bN, hvN, h0N, h1N, hth⟩ := p9
                  have hev1 : a1.eval (.tmp 13) = .pointer (some ⟨bN, 0, none⟩) := by rw [ha1]; exact (eval_slot (i := 9) (by kernel_rfl) (by kernel_rfl) rfl).trans hvN
                  have hev2 : a1.eval (.tmp 59) = .agg #[.int .i64 y.nid, .int .i64 y.tier, .int .i64 y.parent, .int .i64 y.at1, .int .i64 y.at2, .int .i64 y.rank, .string y.text] := by rw [ha1]; exact (eval_slot (i := 7) (by kernel_rfl) (by kernel_rfl) rfl).trans e7
                  clear ha1
                  obtain ⟨wS, hwS⟩ : ∃ wS, wq.setCells bN 0 (#[.int .i64 y.nid, .int .i64 y.tier, .int .i64 y.parent, .int .i64 y.at1, .int .i64 y.at2, .int .i64 y.rank, .string y.text] : Array Value).toList = wS := ⟨_, rfl⟩
                  have hX : BelowX bN wq wS := by rw [← hwS]; exact BelowX.set _ _ _
                  have hR : wS.rangeAt bN 0 [.int .i64 y.nid, .int .i64 y.tier, .int .i64 y.parent, .int .i64 y.at1, .int .i64 y.at2, .int .i64 y.rank, .string y.text] := by rw [← hwS]; exact World.rangeAt_setCells_same wq bN 0 [.int .i64 y.nid, .int .i64 y.tier, .int .i64 y.parent, .int .i64 y.at1, .int .i64 y.at2, .int .i64 y.rank, .string y.text] hth
                  refine wp_store_mid 55 (.tmp 13) (.tmp 59) rfl bN 0 #[.int .i64 y.nid, .int .i64 y.tier, .int .i64 y.parent, .int .i64 y.at1, .int .i64 y.at2, .int .i64 y.rank, .string y.text] hev1 hev2 hth (by kernel_rfl) (by simp [Value.oneCell']) ?_
                  rw [hwS]
                  exact hK undef wS trivial ⟨by kernel_rfl, bN, hvN, h0N, h1N, hX, hR⟩
                refine And.intro (fun wq vals hB hd a1 ha1 K hK => ?_) ?_
                · have e8 : vals 8 = .bool true := toldA_at (hd 8 rfl) rfl
                  clear hd
                  subst ha1
                  simp only [putAll, Act.put, List.setIfInBounds_toArray, List.set_cons_zero, List.set_cons_succ] at hK ⊢
                  simp only [e8] at hK ⊢
                  obtain ⟨ve, hve⟩ : ∃ f : Nat → Value, f = vals := ⟨_, rfl⟩
                  rw [← hve] at hK  ⊢
                  clear e8 hve
                  refine gwp_none rfl ?_
                  go_simp
                  exact hK _ _ rfl (Below.refl _ _)
                exact trivial
              · intro w1r vals hB hd hfl
                have e11 : vals 11 = .bool true := toldA_at (hd 11 (by decide)) rfl
                obtain ⟨bN, hvN, h0N, h1N, hrN⟩ := hfl (by decide)
                clear hfl
                clear hd
                simp only [putAll, Act.put, List.setIfInBounds_toArray, List.set_cons_zero, List.set_cons_succ]
                simp only [e11, hvN]
                obtain ⟨ve, hve⟩ : ∃ f : Nat → Value, f = vals := ⟨_, rfl⟩
                rw [← hve]
                clear e11 hvN hve
                have HB6 : Hid (Below w5.heap.size w5 w1r) := hB
                have HB46 : Hid (Below w4.heap.size w4 w1r) := HB5.out.trans (hB.mono HB5.out.size)
                have g1 := HC2.out w1r (HB25.out.trans (hB.mono HB25.out.size))
                have m2 : w1r.cell? ⟨w1.heap.size, 2, none⟩ = some (.int .i64 x.parent) := g1 2 _ rfl
                have r0 : w1r.cell? ⟨bN, 0, none⟩ = some (.int .i64 y.nid) := hrN 0 _ rfl
                have r2 : w1r.cell? ⟨bN, 2, none⟩ = some (.int .i64 y.parent) := hrN 2 _ rfl
                have r6 : w1r.cell? ⟨bN, 6, none⟩ = some (.string y.text) := hrN 6 _ rfl
                have HO6 : Hid (OwnS w1r w4.heap.size u9 (textsN l ks)) := HO.out.on hB
                have hsz6 := HB46.out.size
                clear g1 hrN hB h0N h1N HCW HDW HGZ HO
                by_cases hp : y.parent = x.parent
                · have hpb : (y.parent != x.parent) = false := by rw [bne_eq_false_iff_eq]; exact hp
                  have HN2 : Hid (nearK l x ids (i + 1) = ks ++ [z]) := by show _ = _; rw [HNX.out, if_pos hp]
                  have HO7 : Hid (World.ownsRow w1r w4.heap.size 9 1 u9 (textsN l ks).length ((textsN l ks).map .string)) := HO6.out
                  have HKL : Hid ((textsN l ks).length = ks.length) := texts_len l ks
                  have HOK := Lib.hid (HO6.out.form)
                  clear hp HNX HO6
                  have HAN := Lib.hid (atOK_next (a := a) HAT.out HFR.out)
                  obtain ⟨a2, ha2⟩ : ∃ a2 : Nat, (if z = id then ks.length else a) = a2 := ⟨_, rfl⟩
                  have HA2 := Lib.hid ha2
                  rw [ha2] at HAN
                  obtain ⟨AU, cU, hU, hU1, _, _⟩ := HOK.out
                  rw [HKL.out] at hU
                  by_cases hq : y.nid = id
                  · have hqb : (y.nid == id) = true := beq_iff_eq.2 hq
                    have HAE : Hid (a2 = ks.length) := by show _ = _; rw [← HA2.out, if_pos (by rw [← HYZ.out]; exact hq)]
                    clear ha2 hq
                    subst hU
                    go_wp2_with (at_builtin; refine wpList_app1 rfl (.tmp 72) (.tmp 75) 31 rfl w4.heap.size 9 16 (.string .empty) info_string rfl Tryd.underlying31 rfl HO7.out rfl rfl (by omega) (by omega) hsz6 ?_; rintro v8 w7 hown7 hb7 _ _)
                    have HO8 : Hid (OwnS w7 w4.heap.size v8 (textsN l (nearK l x ids (i + 1)))) := by
                      show OwnS _ _ _ _
                      rw [HN2.out]
                      unfold OwnS textsN
                      rw [List.map_append, List.map_append, List.length_append]
                      show World.ownsRow _ _ _ _ _ _ (_ ++ [Value.string (textN l z)])
                      rw [HTZ.out]
                      exact hown7
                    have HAN2 : Hid (AtOK (nearK l x ids (i + 1)) id a2) := by rw [HN2.out]; exact HAN.out
                    have HB7 : Hid (Below w4.heap.size w4 w7) := HB46.out.trans hb7
                    clear hown7 hb7 HO7
                    go_wp2
                    go_roundw
                    case rel => exact ⟨i + 1, a2, HI.out, by go_num, by rw [HAE.out], HO8, HAN2, HB7⟩
                    case measure => have := HI.out; simp [intOf]; omega
                  · have hqb : (y.nid == id) = false := beq_eq_false_iff_ne.2 hq
                    have HAE : Hid (a2 = a) := by show _ = _; rw [← HA2.out, if_neg (by rw [← HYZ.out]; exact hq)]
                    clear ha2 hq
                    subst hU
                    go_wp2_with (at_builtin; refine wpList_app1 rfl (.tmp 72) (.tmp 75) 31 rfl w4.heap.size 9 16 (.string .empty) info_string rfl Tryd.underlying31 rfl HO7.out rfl rfl (by omega) (by omega) hsz6 ?_; rintro v8 w7 hown7 hb7 _ _)
                    have HO8 : Hid (OwnS w7 w4.heap.size v8 (textsN l (nearK l x ids (i + 1)))) := by
                      show OwnS _ _ _ _
                      rw [HN2.out]
                      unfold OwnS textsN
                      rw [List.map_append, List.map_append, List.length_append]
                      show World.ownsRow _ _ _ _ _ _ (_ ++ [Value.string (textN l z)])
                      rw [HTZ.out]
                      exact hown7
                    have HAN2 : Hid (AtOK (nearK l x ids (i + 1)) id a2) := by rw [HN2.out]; exact HAN.out
                    have HB7 : Hid (Below w4.heap.size w4 w7) := HB46.out.trans hb7
                    clear hown7 hb7 HO7
                    go_wp2
                    go_roundw
                    case rel => exact ⟨i + 1, a2, HI.out, by go_num, by rw [HAE.out], HO8, HAN2, HB7⟩
                    case measure => have := HI.out; simp [intOf]; omega
                · have hpb : (y.parent != x.parent) = true := bne_iff_ne.2 hp
                  have HN2 : Hid (nearK l x ids (i + 1) = ks) := by show _ = _; rw [HNX.out, if_neg hp, List.append_nil]
                  have HO8 : Hid (OwnS w1r w4.heap.size u9 (textsN l (nearK l x ids (i + 1)))) := by rw [HN2.out]; exact HO6.out
                  have HAN2 : Hid (AtOK (nearK l x ids (i + 1)) id a) := by rw [HN2.out]; exact HAT.out
                  clear hp HNX HO6
                  go_wp2
                  go_roundw
                  case rel => exact ⟨i + 1, a, HI.out, by go_num, rfl, HO8, HAN2, HB46⟩
                  case measure => have := HI.out; simp [intOf]; omega
            · obtain rfl : m = i := by omega
              have hiz : ¬ (m : Int) < (m : Int) := by omega
              have HKN : Hid (nearK l x ids m = nearL T l x) := HNR.out m (Nat.le_refl _)
              rw [HKN.out] at HO HAT
              have HNE := Lib.hid (hit_near (rid := rid) (N := N) HL.out HGX.out HAT.out)
              obtain ⟨S, hS, haS, hhit, hSa⟩ := HNE.out
              rw [hS] at HO
              have hSl : S.length ≤ 14 := by
                have h1 : S.length = (nearL T l x).length := by rw [← hS, texts_len]
                have h2 := HKN.out
                rw [h1, ← h2]
                unfold nearK
                have := List.length_filter_le (nearP l x) (ids.take m)
                rw [List.length_take] at this
                omega
              obtain ⟨K, hK⟩ : ∃ K, S.length = K := ⟨_, rfl⟩
              have HPT := Lib.hid (texts_parts (N := N) hK hSa)
              have HPL := Lib.hid (texts_left (N := N) hK (show a < K by omega))
              have HKS := Lib.hid hK
              obtain ⟨A9, c9, rfl, hc9, hc92, hr9⟩ := OwnS.form HO.out
              rw [hK] at hc9 hr9 haS hSl hhit ⊢
              have HR9 := Lib.hid hr9
              have HHIT : Hid (hitL rid tn l id n = some { rid := rid, nid := id, left := (S.take a).drop (a - min N K), key := x.text, right := (S.drop (a + 1)).take (min N K) }) := by
                show _ = _
                rw [HN.out, ← HTN.out]
                exact hhit
              have g0 := HC0.out w5 HB05.out
              have k0 : w5.cell? ⟨w.heap.size, 0, none⟩ = some (.int .i64 rid) := g0 0 _ rfl
              have k1 : w5.cell? ⟨w.heap.size, 1, none⟩ = some (.string name) := g0 1 _ rfl
              have k2 : w5.cell? ⟨w.heap.size, 2, none⟩ = some (.int .i64 len) := g0 2 _ rfl
              have k3 : w5.cell? ⟨w.heap.size, 3, none⟩ = some (.int .i64 day) := g0 3 _ rfl
              have k4 : w5.cell? ⟨w.heap.size, 4, none⟩ = some (.slice sa sn sc) := g0 4 _ rfl
              have k5 : w5.cell? ⟨w.heap.size, 5, none⟩ = some (.slice ta tn tc) := g0 5 _ rfl
              have k6 : w5.cell? ⟨w.heap.size, 6, none⟩ = some (.slice na nn nc) := g0 6 _ rfl
              clear g0 hr9 hSa hhit HNE hS HKN HNR HGT HND HAT HO HIR hK
              go_wp2_with fail
              refine (HHI2.out w5 HBW5.out).mono ?_
              rintro e w6 ⟨hv, rfl, hht, hvr, _, hb6⟩
              rw [HHIT.out] at hht
              obtain ⟨⟨r1, n1, L1, k1', R1⟩, la, ln, lc, ra, rn, rc⟩ := hv
              simp only [Option.getD_some, Ht.mk.injEq] at hht
              obtain ⟨q1, q2, E3, q4, E5⟩ := hht
              have q1' := q1.symm
              have q2' := q2.symm
              have q4' := q4.symm
              subst q1'
              subst q2'
              subst q4'
              have hl1 : ln = a - (a - N) := by have h1 : L1.length = ln := hvr.left.len; have h2 := HPL.out; rw [← E3] at h2; omega
              have HL1 := Lib.hid hl1
              have hln : ln ≤ 1000 := by omega
              clear hl1
              have hr1 : rn ≤ 14 := by
                have h1 : R1.length = rn := hvr.right.len
                rw [← h1]
                show R1.length ≤ 14
                rw [E5, List.length_take, List.length_drop]
                have := HKS.out
                omega
              have HXY : Hid (L1 ++ [x.text] ++ R1 = (S.take (min K (a + N + 1))).drop (a - N)) := by show _ = _; rw [E3, E5]; exact HPT.out
              have HLL : Hid (L1.length = ln) := hvr.left.len
              have HRL : Hid (R1.length = rn) := hvr.right.len
              have HVL : Hid (∀ W, Below w6.heap.size w6 W → SR W W.heap.size la ln L1) := fun W hW => (hvr.on hW).left
              have HVRR : Hid (∀ W, Below w6.heap.size w6 W → SR W W.heap.size ra rn R1) := fun W hW => (hvr.on hW).right
              have HB56 : Hid (Below w5.heap.size w5 w6) := hb6
              have HB6 : Hid (Below w.heap.size w w6) := HBW5.out.trans (hb6.mono HBW5.out.size)
              clear hvr hb6 k0 k1 k2 k3 k4 k5 k6 q1 q2 E3 q4 E5 HPT HPL HHIT
              rw [show (getN l id).isSome = true by rw [HGX.out]; rfl]
              unfold encH
              simp only [] 
              go_upto_region 16 with fail
              obtain ⟨W7, hW7⟩ : ∃ W7, (w6.alloc (.cells #[.int .i64 rid, .int .i64 id, .slice la ln lc, .string x.text, .slice ra rn rc] 33)) = W7 := ⟨_, rfl⟩
              have HB7 : Hid (Below w6.heap.size w6 W7) := by rw [← hW7]; exact ((Below.refl _ _).alloc (by simp <;> omega) _)
              have hz7 : W7.heap.size = w6.heap.size + 1 := by rw [← hW7]; simp
              have HC7 : Hid (∀ X, Below W7.heap.size W7 X → X.rangeAt (w6.heap.size) 0 [.int .i64 rid, .int .i64 id, .slice la ln lc, .string x.text, .slice ra rn rc]) := fun X hX => by
                refine range_below hX (by omega) fun j v hv => ?_
                rw [← hW7, Nat.zero_add]; rw [World.cell?_alloc_at _ _ _ _ (by simp), ← hv, ← List.getElem?_toArray]; try rfl
              (try rw [hW7])
              clear hW7
              have HB67 : Hid (Below w6.heap.size w6 W7) := HB7.out
              have HBW7 : Hid (Below w.heap.size w W7) := HB6.out.trans (HB7.out.mono HB6.out.size)
              have HB57 : Hid (Below w5.heap.size w5 W7) := HB56.out.trans (HB7.out.mono HB56.out.size)
              have g7 := HC7.out W7 (Below.refl _ _)
              have h2 : W7.cell? ⟨w6.heap.size, 2, none⟩ = some (.slice la ln lc) := g7 2 _ rfl
              have HL7 : Hid (SR W7 W7.heap.size la ln L1) := HVL.out W7 HB67.out
              have HN0 : Hid (World.ownsRow W7 W7.heap.size 9 1 (.slice none 0 0) 0 []) := World.ownsRow_nil _ _ _ _
              have rk1 : IntKind.i64.wrap ((a : Int) - n) = (a : Int) - n := by have := HN.out; rw [IntKind.wrap_i64]; omega
              have rk2 : IntKind.i64.wrap ((a : Int) + n) = (a : Int) + n := by have := HN.out; rw [IntKind.wrap_i64]; omega
              have rk3 : IntKind.i64.wrap ((a : Int) + n + 1) = (a : Int) + n + 1 := by have := HN.out; rw [IntKind.wrap_i64]; omega
              clear g7 HVL
              go_upto_region 20 with (first | (at_builtin; refine wpList_app rfl (.tmp 84) (.tmp 86) 31 rfl W7.heap.size 9 16 (.string .empty) info_string rfl Tryd.underlying31 rfl HN0.out (A := la) (m := ln) (c := lc) rfl HL7.out (one_strs _) (by omega) (by omega) (Nat.le_refl _) ?_; intro v8 w8 hown8 hg8 hat8; have HB8 : Hid (Below W7.heap.size W7 w8) := below_app (Below.refl _ W7) HN0.out hg8 (Nat.le_refl _) (Nat.le_refl _); have HO8 : Hid (World.ownsRow w8 W7.heap.size 9 1 v8 ln (L1.map .string)) := (by have h9 := hown8; rw [Nat.zero_add, List.nil_append] at h9; exact h9); have h3 : w8.cell? ⟨w6.heap.size, 3, none⟩ = some (.string x.text) := HC7.out w8 HB8.out 3 _ rfl; clear hown8 hg8 hat8 HN0 HL7 h2) | (at_builtin; refine wpList_app1 rfl (.tmp 88) (.tmp 91) 31 rfl W7.heap.size 9 16 (.string .empty) info_string rfl Tryd.underlying31 rfl HO8.out rfl rfl (by omega) (by omega) HB8.out.size ?_; rintro v9 w9 hown9 hb9 _ _; have HB9 : Hid (Below W7.heap.size W7 w9) := HB8.out.trans hb9; have HO9 : Hid (World.ownsRow w9 W7.heap.size 9 1 v9 (ln + 1) ((L1 ++ [x.text]).map .string)) := (by show World.ownsRow _ _ _ _ _ _ _; rw [List.map_append]; exact hown9); have HR9' : Hid (SR w9 w9.heap.size ra rn R1) := HVRR.out w9 (HB67.out.trans (HB9.out.mono HB67.out.size)); have h4 : w9.cell? ⟨w6.heap.size, 4, none⟩ = some (.slice ra rn rc) := HC7.out w9 HB9.out 4 _ rfl; clear hown9 hb9 HO8 HB8 h3) | (at_builtin; refine wpList_app rfl (.tmp 93) (.tmp 95) 31 rfl W7.heap.size 9 16 (.string .empty) info_string rfl Tryd.underlying31 rfl HO9.out (A := ra) (m := rn) (c := rc) rfl HR9'.out (one_strs _) (by omega) (by omega) HB9.out.size ?_; intro v10 w10 hown10 hg10 hat10; have HB10 : Hid (Below W7.heap.size W7 w10) := below_app HB9.out HO9.out hg10 (Nat.le_refl _) HB9.out.size; have HO10 : Hid (World.ownsRow w10 W7.heap.size 9 1 v10 (ln + 1 + rn) ((L1 ++ [x.text] ++ R1).map .string)) := (by show World.ownsRow _ _ _ _ _ _ _; rw [List.map_append]; exact hown10); obtain ⟨A10, c10, rfl, _, _, hs10⟩ := own_form HO10.out; have HS10 : Hid (SR w10 w10.heap.size A10 (ln + 1 + rn) (L1 ++ [x.text] ++ R1)) := hs10; clear hown10 hg10 hat10 HO9 HB9 HO10 h4 HR9' hs10 HVRR))
              have hmx1 : max (0 : Int) ((a : Int) - n) = ((a - N : Nat) : Int) := by have := HN.out; omega
              have hmx2 : min (K : Int) ((a : Int) + n + 1) = ((min K (a + N + 1) : Nat) : Int) := by have := HN.out; omega
              go_upto_region 21 with fail
              (try rw [hmx1])
              clear hmx1 rk1
              go_upto_region 22 with fail
              (try rw [hmx2])
              clear hmx2 rk2 rk3
              obtain ⟨f, hf⟩ : ∃ f, a - N = f := ⟨_, rfl⟩
              obtain ⟨t, ht⟩ : ∃ t, min K (a + N + 1) = t := ⟨_, rfl⟩
              have hfa : f ≤ a := by omega
              have hat : a < t := by omega
              have htK : t ≤ K := by omega
              rw [hf] at HXY HL1 ⊢
              rw [ht] at HXY ⊢
              clear hf ht
              have hcf : ¬ c9 = f := by omega
              have hft : (f : Int) ≤ (t : Int) := by omega
              have hf0 : (0 : Int) ≤ (f : Int) := by omega
              have htc : (t : Int) ≤ (c9 : Int) := by omega
              have rk4 : IntKind.i64.wrap ((a : Int) - (f : Int)) = (a : Int) - (f : Int) := by rw [IntKind.wrap_i64]; omega
              have hq : ((ln : Int) == (a : Int) - (f : Int)) = true := beq_iff_eq.2 (by have := HL1.out; omega)
              have HX10 : Hid (SR w10 w10.heap.size A10 (ln + 1 + rn) ((S.take t).drop f)) := by
                have h9 := HS10.out
                rw [HXY.out] at h9
                exact h9
              have HY10 : Hid (SR w10 w10.heap.size (Option.map (fun x => x.add f) A9) (t - f) ((S.take t).drop f)) := by
                have h9 : Reads w10 w5.heap.size 1 A9 K (S.map Value.string) := HR9.out.below (HB57.out.trans (HB10.out.mono HB57.out.size))
                have h10 := Reads.cut (cap := c9) (Reads.take h9 htK) (by omega : f ≤ t) (by omega)
                rw [if_neg hcf] at h10
                show Reads _ _ _ _ _ _
                rw [List.map_drop, List.map_take]
                exact h10.more (by have := HB57.out.size; have := HB10.out.size; omega)
              have HEQ := Lib.hid (mono_eq (equal_strs A10 (Option.map (fun x => x.add f) A9) (ln + 1 + rn) (t - f) c10 (c9 - f) _ _ w10 HX10.out HY10.out (by omega) (by omega)) (v' := .bool true) (by rw [decide_eq_true rfl]))
              have HBW10 : Hid (Below w.heap.size w w10) := HBW7.out.trans (HB10.out.mono HBW7.out.size)
              have g0 := HC0.out w10 (HB05.out.trans ((HB57.out.trans (HB10.out.mono HB57.out.size)).mono HB05.out.size))
              have k0 : w10.cell? ⟨w.heap.size, 0, none⟩ = some (.int .i64 rid) := g0 0 _ rfl
              have g7 := HC7.out w10 HB10.out
              have e0 : w10.cell? ⟨w6.heap.size, 0, none⟩ = some (.int .i64 rid) := g7 0 _ rfl
              have e1 : w10.cell? ⟨w6.heap.size, 1, none⟩ = some (.int .i64 id) := g7 1 _ rfl
              have e2 : w10.cell? ⟨w6.heap.size, 2, none⟩ = some (.slice la ln lc) := g7 2 _ rfl
              have hg := Tryd.eqGuardType30
              have hqq : ∀ W : World, (Op.equalIn 10000 30 (.agg #[.int .i64 rid, .int .i64 id]) (.agg #[.int .i64 rid, .int .i64 id])).run Tryd.prog W = .ok true W := eq_ref _ _
              clear g0 g7 HX10 HY10 HXY HS10 HL1 hr1 hfa hat htK
              go_wp2_with fail
              refine HEQ.out.mono ?_
              rintro e w11 ⟨rfl, z, rfl⟩
              have HBW11 : Hid (Below w.heap.size w (w10.drewN z)) := below_drewN HBW10.out z
              go_wp2_with fail
              refine (HAW.out _ HBW11.out).mono ?_
              rintro e w12 ⟨rfl, hb12⟩
              have HB12 : Hid (Below w.heap.size w w12) := HBW11.out.trans (hb12.mono HBW11.out.size)
              clear hb12
              go_wp2
              go_ret
              exact ⟨rfl, HB12.out⟩

end Go.Proofs.YtdpllfgnppeneaaDoor
