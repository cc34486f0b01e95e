import Derived.Test.YthcabnfcgjnlnaaGreatDoorC15
import Derived.Test.YthcabnfcgjnlnaaGreatDoorE09
set_option linter.unusedVariables false
set_option linter.unusedSimpArgs false
namespace Go.Proofs.YthcabnfcgjnlnaaGreatDoor
open Go.RowKit Ru Lay
attribute [local go_sem ↓] Go.wp_at_zero Go.wp_at_succ
set_option maxHeartbeats 8000000 in
set_option maxRecDepth 100000 in
theorem refRows_any (d : Dv) (T : List Ti) (l : List Nt) (id : Int) (K : Nat) (w : World) (hT : TiersR w w.heap.size d.ta d.tn T) (hl : NotesR w w.heap.size d.na d.nn l) (hok : DocOk T l) (hn : d.nn < 20) (htn : d.tn ≤ 1000000)
    (hend : ∀ x, curF l x K = none) (hK : K ≤ d.tn + 1) :
    Calls Tryz.prog 20 #[docV d, .int .i64 id] w fun e w' => RowsV (getN l id).isSome (rowsL T l id K) e w' ∧ Below w.heap.size w w' := by
  have hz : TxtZ l := fun y hy => hok.text hy
  have HG := Lib.hid fun (W : World) (hW : Below w.heap.size w W) (i : Int) => refGet_any d l i W (hl.on hW) (by omega)
  have HWO := Lib.hid fun (W : World) (hW : Below w.heap.size w W) => refWords_any d T l id K W (hT.on hW) (hl.on hW) hok.light hn htn hend hK
  have HSH := Lib.hid fun (W : World) (hW : Below w.heap.size w W) (i : Int) => refShown_any d T l i W (hT.on hW) (hl.on hW) hok hn htn
  have hNl := hl.len
  have hfz : ∀ i, SzS (formsL T l i) := fun i => ⟨by have := forms_len (T := T) (l := l) (id := i); omega, fun s hs => by have := forms_sz hz s hs; omega⟩
  have hgz : ∀ i, SzS (glossesL T l i) := fun i => ⟨by have := forms_len (T := T) (l := l) (id := i); rw [← glosses_len] at this; omega, fun s hs => by have := glosses_sz hz s hs; omega⟩
  have hwl : (wordsL T l id K).length ≤ 20 := by have := wordsL_len (T := T) (l := l) (id := id) (K := K); omega
  clear hT hl hok hend hNl hz
  unfold docV at HG HWO HSH
  unfold docV
  obtain ⟨rid, name, len, day, sa, sn, sc, ta, tn, tc, na, nn, nc⟩ := d
  simp only at HG HWO HSH hn htn hK ⊢
  unfold rowsL
  have htx0 : textN l id = ((getN l id).getD nt0).text := rfl
  rw [htx0]
  obtain ⟨bs0, hbs0⟩ : ∃ x, (getN l id).isSome = x := ⟨_, rfl⟩
  obtain ⟨y0, hy0⟩ : ∃ x, (getN l id).getD nt0 = x := ⟨_, rfl⟩
  obtain ⟨ws, hws⟩ : ∃ x, wordsL T l id K = x := ⟨_, rfl⟩
  rw [hbs0, hy0, hws]
  rw [hws] at HWO hwl
  obtain ⟨W0, hW0, hz0, hB0, hK0⟩ := doc_cells w rid name len day sa ta na sn sc tn tc nn nc
  have HB := Lib.hid hB0
  have HK := Lib.hid hK0
  have HD : Hid (∀ W, Below W0.heap.size W0 W → W.rangeAt w.heap.size 0 [.int .i64 rid, .string name, .int .i64 len, .int .i64 day, .slice sa sn sc, .slice ta tn tc, .slice na nn nc]) := hK0
  have HBW : Hid (∀ W, Below W0.heap.size W0 W → Below w.heap.size w W) := fun W hW => HB.out.trans (hW.mono HB.out.size)
  have HG0 := Lib.hid (HG.out W0 HB.out id)
  unfold getV noteV at HG0
  rw [hbs0, hy0] at HG0
  have HFZ := Lib.hid hfz
  have HGZ := Lib.hid hgz
  clear hB0 hK0 hbs0 hy0 hws htx0 hfz hgz
  go_enter Tryz.func20, Tryz.ntmps20
  go_upto_region 1 with fail
  (try rw [hW0])
  clear hW0
  obtain ⟨k0, k1, k2, k3, k4, k5, k6⟩ := range7 (HK.out W0 (Below.refl _ _))
  go_wp2_with fail
  refine HG0.out.mono ?_
  rintro e w1 ⟨rfl, hb1⟩
  obtain ⟨p0, hp0⟩ : ∃ p0, w1.heap.size = p0 := ⟨_, rfl⟩
  obtain ⟨W1, hW1⟩ : ∃ W1, w1.alloc (.cells #[.int .i64 y0.nid, .int .i64 y0.tier, .int .i64 y0.parent, .int .i64 y0.at1, .int .i64 y0.at2, .int .i64 y0.rank, .string y0.text] 58) = W1 := ⟨_, rfl⟩
  have hz1 : W1.heap.size = p0 + 1 := by rw [← hW1, ← hp0]; simp
  have HB1 : Hid (Below W0.heap.size W0 W1) := by rw [← hW1]; exact hb1.alloc hb1.size _
  have HY0 : Hid (∀ W, Below W1.heap.size W1 W → W.cell? ⟨p0, 6, none⟩ = some (.string y0.text)) := fun W hW => by
    rw [hW.cell (by show p0 < _; omega), ← hW1, ← hp0, World.cell?_alloc_new]; rfl
  clear hb1 k0 k1 k2 k3 k4 k5 k6 HG0
  go_upto_region 2 with fail
  (try rw [hW1])
  (try rw [hp0])
  clear hW1 hp0
  cases bs0 with
  | false =>
    go_wp2
    go_ret
    exact ⟨⟨fun _ => rfl, fun h => (by cases h)⟩, HBW.out _ HB1.out⟩
  | true =>
    obtain ⟨k0, k1, k2, k3, k4, k5, k6⟩ := range7 (HK.out W1 HB1.out)
    have HWW := Lib.hid (HWO.out W1 (HBW.out _ HB1.out))
    go_wp2_with fail
    refine HWW.out.mono ?_
    rintro e w2 ⟨v2, rfl, hO2, hb2⟩
    obtain ⟨A2, c7, hv2, h2a, h2b, h2r⟩ := OwnI.form hO2
    subst hv2
    have HIR := Lib.hid h2r
    have HB12 := Lib.hid hb2
    have HB2 := Lib.hid (HB1.out.trans (hb2.mono HB1.out.size))
    clear hb2 k0 k1 k2 k3 k4 k5 k6 HWW HWO hO2 h2a h2b h2r
    by_cases h0 : ws = []
    · subst h0
      have c6 := HY0.out w2 HB12.out
      clear HY0
      go_wp2
      go_ret
      have hb4 : Below w2.heap.size w2 (w2.alloc (.cells #[.string y0.text] 9)) := (Below.refl _ _).alloc (Nat.le_refl _) _
      refine ⟨⟨fun h => (by cases h), fun _ => ⟨w2.heap.size + 1, 1, 1, rfl, ?_, Nat.le_refl _, by omega⟩⟩, HBW.out _ (HB2.out.trans (((hb4.alloc hb4.size _)).mono HB2.out.size))⟩
      first
        | exact rowsC_one w2 y0.text _ _
        | (rw [if_pos rfl]; exact rowsC_one w2 y0.text _ _)
        | (rw [if_pos rfl, if_pos rfl]; exact rowsC_one w2 y0.text _ _)
    · have hne : 0 < ws.length := by
        cases ws with
        | nil => exact absurd rfl h0
        | cons a r => simp
      have hq : ((ws.length : Int) == 0) = false := beq_eq_false_iff_ne.2 (by omega)
      have hq2 : ¬ ((ws.length : Int) = 0) := by omega
      have hq3 : ¬ (ws.length = 0) := by omega
      have HWS := Lib.hid h0
      obtain ⟨wl, hwlq⟩ : ∃ x, ws.length = x := ⟨_, rfl⟩
      have HWL := Lib.hid hwlq
      rw [hwlq] at hwl hne hq hq2 hq3 HIR ⊢
      clear h0 hwlq
      obtain ⟨w3, hw3⟩ : ∃ w3, w2 = w3 := ⟨_, rfl⟩
      rw [hw3] at HIR HB12 HB2 ⊢
      clear hw3
      go_wp2_with fail
      go_loopw [8, 9, 10, 11, 12, 13, 14, 15, 16, 37] (fun v8 v9 v10 v11 v12 v13 v14 v15 v16 v37 wr => ∃ i : Nat, i ≤ wl ∧ v37 = .int .i64 i ∧ v11 = .bool (someB T l (ws.take i)) ∧ Hid (OwnS wr w3.heap.size v8 (row1 T l (ws.take i))) ∧ Hid (OwnS wr w3.heap.size v9 (row2 T l (ws.take i))) ∧ Hid (OwnS wr w3.heap.size v10 (row3 T l (ws.take i))) ∧ Hid (Apart v8 v9) ∧ Hid (Apart v8 v10) ∧ Hid (Apart v9 v10) ∧ Hid (Below w3.heap.size w3 wr)) (fun _ _ _ _ _ _ _ _ _ v37 _ => wl - (intOf v37).toNat)
      case atStart => exact ⟨0, Nat.zero_le _, rfl, rfl, OwnS.nil _ _, OwnS.nil _ _, OwnS.nil _ _, Apart.nil_left _, Apart.nil_left _, Apart.nil_left _, Below.refl _ _⟩
      case round =>
        obtain ⟨i, hi, rfl, rfl, HO8, HO9, HO10, HAP89, HAP810, HAP910, HB4⟩ := hrel
        obtain ⟨w4, hw4⟩ : ∃ w4, wr = w4 := ⟨_, rfl⟩
        rw [hw4] at HO8 HO9 HO10 HB4 ⊢
        clear hw4
        have HB04 : Hid (Below W0.heap.size W0 w4) := HB2.out.trans (HB4.out.mono HB2.out.size)
        have hz4 := HB4.out.size
        obtain ⟨sm, hsm⟩ : ∃ x, someB T l (ws.take i) = x := ⟨_, rfl⟩
        rw [hsm]
        by_cases hlt : i < wl
        · have hiz : (i : Int) < (wl : Int) := by omega
          have hiA : (0 : Int) ≤ (i : Int) := by omega
          obtain ⟨bd, x, hA, hbb, hidx, hc⟩ := HIR.out.at_ hlt
          subst hA
          have HLT := Lib.hid hlt
          have HCB : Hid (∀ W, Below w3.heap.size w3 W → W.cell? (bd.add i) = some (.int .i64 x)) := fun W hW => (hW.cell (by rw [block_of_add]; exact hbb)).trans hc
          have HCX : Hid (∀ W, Below w4.heap.size w4 W → W.cell? (bd.add i) = some (.int .i64 x)) := fun W hW => HCB.out W (HB4.out.trans (hW.mono hz4))
          have HN1 : Hid (row1 T l (ws.take (i + 1)) = row1 T l (ws.take i) ++ [textN l x]) := map_next _ hidx
          have HN2 : Hid (row2 T l (ws.take (i + 1)) = row2 T l (ws.take i) ++ [joinD (formsL T l x)]) := map_next _ hidx
          have HN3 : Hid (row3 T l (ws.take (i + 1)) = row3 T l (ws.take i) ++ [joinD (glossesL T l x)]) := map_next _ hidx
          have HSN : Hid (someB T l (ws.take (i + 1)) = (sm || decide (0 < (formsL T l x).length))) := by rw [← hsm]; exact someB_next hidx
          have hl1 : (row1 T l (ws.take i)).length ≤ 20 := by unfold row1; rw [List.length_map, List.length_take]; omega
          have hl2 : (row2 T l (ws.take i)).length ≤ 20 := by unfold row2; rw [List.length_map, List.length_take]; omega
          have hl3 : (row3 T l (ws.take i)).length ≤ 20 := by unfold row3; rw [List.length_map, List.length_take]; omega
          obtain ⟨r1, hr1⟩ : ∃ x, row1 T l (ws.take i) = x := ⟨_, rfl⟩
          obtain ⟨r2, hr2⟩ : ∃ x, row2 T l (ws.take i) = x := ⟨_, rfl⟩
          obtain ⟨r3, hr3⟩ : ∃ x, row3 T l (ws.take i) = x := ⟨_, rfl⟩
          rw [hr1] at HN1 HO8 hl1
          rw [hr2] at HN2 HO9 hl2
          rw [hr3] at HN3 HO10 hl3
          have HGX := Lib.hid fun (W : World) (hW : Below w4.heap.size w4 W) => HG.out W (HBW.out _ (HB04.out.trans (hW.mono HB04.out.size))) x
          unfold getV noteV at HGX
          have htx : textN l x = ((getN l x).getD nt0).text := rfl
          rw [htx] at HN1
          obtain ⟨y, hy⟩ : ∃ y, (getN l x).getD nt0 = y := ⟨_, rfl⟩
          obtain ⟨bs, hbs⟩ : ∃ bs, (getN l x).isSome = bs := ⟨_, rfl⟩
          rw [hy] at HGX HN1
          rw [hbs] at HGX
          have HD12 : Hid (∀ W, Below w4.heap.size w4 W → W.rangeAt w.heap.size 0 [.int .i64 rid, .string name, .int .i64 len, .int .i64 day, .slice sa sn sc, .slice ta tn tc, .slice na nn nc]) := fun W hW => HD.out W (HB04.out.trans (hW.mono HB04.out.size))
          have HFX := HFZ.out x
          have HGZX := HGZ.out x
          have HSS0 := Lib.hid fun (W : World) (hW : Below w.heap.size w W) => HSH.out W hW x
          obtain ⟨fs, hfs⟩ : ∃ z, formsL T l x = z := ⟨_, rfl⟩
          obtain ⟨gs, hgs⟩ : ∃ z, glossesL T l x = z := ⟨_, rfl⟩
          rw [hfs] at HN2 HSN HSS0 HFX
          rw [hgs] at HN3 HSS0 HGZX
          have HZ1 := Lib.hid HFX
          have HZ2 := Lib.hid HGZX
          clear hc hidx hr1 hr2 hr3 hy hbs htx hfs hgs HFX HGZX hsm hbb
          go_upto_region 12 with fail
          refine wp_region_toldA 9 10 7 [.int .i64 y.nid, .int .i64 y.tier, .int .i64 y.parent, .int .i64 y.at1, .int .i64 y.at2, .int .i64 y.rank, .string y.text] [ToldA.is (.agg #[.int .i64 rid, .string name, .int .i64 len, .int .i64 day, .slice sa sn sc, .slice ta tn tc, .slice na nn nc]), ToldA.is (.slice (some bd) wl c7), ToldA.is (.int .i64 (i : Int)), ToldA.is (.pointer (some (bd.add i))), ToldA.is (.int .i64 x), ToldA.is (.tuple #[.agg #[.int .i64 y.nid, .int .i64 y.tier, .int .i64 y.parent, .int .i64 y.at1, .int .i64 y.at2, .int .i64 y.rank, .string y.text], .bool bs]), ToldA.is (.tuple #[.agg #[.int .i64 y.nid, .int .i64 y.tier, .int .i64 y.parent, .int .i64 y.at1, .int .i64 y.at2, .int .i64 y.rank, .string y.text], .bool bs]), ToldA.is (.agg #[.int .i64 y.nid, .int .i64 y.tier, .int .i64 y.parent, .int .i64 y.at1, .int .i64 y.at2, .int .i64 y.rank, .string y.text]), ToldA.is (.bool bs), ToldA.new, ToldA.put, ToldA.is (.bool bs)] (by omega) (by kernel_rfl) (by kernel_rfl) rfl ?_ ?_
          · refine And.intro (fun w1 vals hB hd a1 ha1 K hK => ?_) ?_
            · clear hd
              subst ha1
              simp only [putAll, Act.put, pS] at hK ⊢
              refine gwp_none rfl ?_
              refine wp_load_mid 38 (.tmp 2) rfl w.heap.size 0 rfl [.int .i64 rid, .string name, .int .i64 len, .int .i64 day, .slice sa sn sc, .slice ta tn tc, .slice na nn nc] _ (HD12.out w1 hB) Tryz.underlying38 rfl (by kernel_rfl) ?_
              simp only [Act.put, pS]
              exact hK _ _ rfl (Below.refl _ _)
            refine And.intro (fun w1 vals hB hd a1 ha1 K hK => ?_) ?_
            · clear hd
              subst ha1
              simp only [putAll, Act.put, pS] at hK ⊢
              refine gwp_none rfl ?_
              go_simp
              exact hK _ _ rfl (Below.refl _ _)
            refine And.intro (fun w1 vals hB hd a1 ha1 K hK => ?_) ?_
            · clear hd
              subst ha1
              simp only [putAll, Act.put, pS] at hK ⊢
              refine gwp_none rfl ?_
              go_simp
              exact hK _ _ rfl (Below.refl _ _)
            refine And.intro (fun w1 vals hB hd a1 ha1 K hK => ?_) ?_
            · have e1 : vals 1 = .slice (some bd) wl c7 := toldA_at (hd 1 rfl) rfl
              have e2 : vals 2 = .int .i64 (i : Int) := toldA_at (hd 2 rfl) rfl
              clear hd
              subst ha1
              simp only [putAll, Act.put, pS] at hK ⊢
              simp only [e1, e2] at hK ⊢
              clear e1 e2
              refine gwp_none rfl ?_
              go_simp
              exact hK _ _ rfl (Below.refl _ _)
            refine And.intro (fun w1 vals hB hd a1 ha1 K hK => ?_) ?_
            · have e3 : vals 3 = .pointer (some (bd.add i)) := toldA_at (hd 3 rfl) rfl
              clear hd
              subst ha1
              simp only [putAll, Act.put, pS] at hK ⊢
              simp only [e3] at hK ⊢
              clear e3
              refine gwp_none rfl ?_
              have hc := HCX.out w1 hB
              go_simp
              exact hK _ _ rfl (Below.refl _ _)
            refine And.intro (fun w1 vals hB hd a1 ha1 K hK => ?_) ?_
            · have e0 : vals 0 = .agg #[.int .i64 rid, .string name, .int .i64 len, .int .i64 day, .slice sa sn sc, .slice ta tn tc, .slice na nn nc] := toldA_at (hd 0 rfl) rfl
              have e4 : vals 4 = .int .i64 x := toldA_at (hd 4 rfl) rfl
              clear hd
              subst ha1
              simp only [putAll, Act.put, pS] at hK ⊢
              simp only [e0, e4] at hK ⊢
              clear e0 e4
              refine gwp_none rfl ?_
              go_simp
              refine (HGX.out w1 hB).mono ?_
              rintro e w3 ⟨rfl, hb⟩
              exact hK _ _ rfl hb
            refine And.intro (fun w1 vals hB hd a1 ha1 K hK => ?_) ?_
            · have e5 : vals 5 = .tuple #[.agg #[.int .i64 y.nid, .int .i64 y.tier, .int .i64 y.parent, .int .i64 y.at1, .int .i64 y.at2, .int .i64 y.rank, .string y.text], .bool bs] := toldA_at (hd 5 rfl) rfl
              clear hd
              subst ha1
              simp only [putAll, Act.put, pS] at hK ⊢
              simp only [e5] at hK ⊢
              clear e5
              refine gwp_none rfl ?_
              go_simp
              exact hK _ _ rfl (Below.refl _ _)
            refine And.intro (fun w1 vals hB hd a1 ha1 K hK => ?_) ?_
            · have e6 : vals 6 = .tuple #[.agg #[.int .i64 y.nid, .int .i64 y.tier, .int .i64 y.parent, .int .i64 y.at1, .int .i64 y.at2, .int .i64 y.rank, .string y.text], .bool bs] := toldA_at (hd 6 rfl) rfl
              clear hd
              subst ha1
              simp only [putAll, Act.put, pS] at hK ⊢
              simp only [e6] at hK ⊢
              clear e6
              refine gwp_none rfl ?_
              go_simp
              exact hK _ _ rfl (Below.refl _ _)
            refine And.intro (fun w1 vals hB hd a1 ha1 K hK => ?_) ?_
            · have e6 : vals 6 = .tuple #[.agg #[.int .i64 y.nid, .int .i64 y.tier, .int .i64 y.parent, .int .i64 y.at1, .int .i64 y.at2, .int .i64 y.rank, .string y.text], .bool bs] := toldA_at (hd 6 rfl) rfl
              clear hd
              subst ha1
              simp only [putAll, Act.put, pS] at hK ⊢
              simp only [e6] at hK ⊢
              clear e6
              refine gwp_none rfl ?_
              go_simp
              exact hK _ _ rfl (Below.refl _ _)
            refine And.intro (fun w1 vals hB hd a1 ha1 K hK => ?_) ?_
            · clear hd
              subst ha1
              simp only [putAll, Act.put, pS] at hK ⊢
              refine gwp_none rfl ?_
              go_simp
              exact hK _ _ ⟨_, rfl, hB.size, by simp, there_new w1 _ _⟩ ((Below.refl _ _).alloc (Nat.le_refl _) _)
            refine And.intro (fun w1 vals hB hd a1 ha1 K hK => ?_) ?_
            · have e7 : vals 7 = .agg #[.int .i64 y.nid, .int .i64 y.tier, .int .i64 y.parent, .int .i64 y.at1, .int .i64 y.at2, .int .i64 y.rank, .string y.text] := toldA_at (hd 7 rfl) rfl
              have p9 : NewAt 7 _ (vals 9) _ := toldA_at (t := ToldA.new) (hd 9 rfl) rfl
              clear hd
              refine gwp_none rfl ?_
              obtain ⟨bN, hvN, h0N, h1N, hth⟩ := p9
              have hev1 : a1.eval (.tmp 13) = .pointer (some ⟨bN, 0, none⟩) := by rw [ha1]; exact (eval_slot (i := 9) (by kernel_rfl) (by kernel_rfl) rfl).trans hvN
              have hev2 : a1.eval (.tmp 47) = .agg #[.int .i64 y.nid, .int .i64 y.tier, .int .i64 y.parent, .int .i64 y.at1, .int .i64 y.at2, .int .i64 y.rank, .string y.text] := by rw [ha1]; exact (eval_slot (i := 7) (by kernel_rfl) (by kernel_rfl) rfl).trans e7
              clear ha1
              obtain ⟨wS, hwS⟩ : ∃ wS, w1.setCells bN 0 (#[.int .i64 y.nid, .int .i64 y.tier, .int .i64 y.parent, .int .i64 y.at1, .int .i64 y.at2, .int .i64 y.rank, .string y.text] : Array Value).toList = wS := ⟨_, rfl⟩
              have hX : BelowX bN w1 wS := by rw [← hwS]; exact BelowX.set _ _ _
              have hR : wS.rangeAt bN 0 [.int .i64 y.nid, .int .i64 y.tier, .int .i64 y.parent, .int .i64 y.at1, .int .i64 y.at2, .int .i64 y.rank, .string y.text] := by rw [← hwS]; exact World.rangeAt_setCells_same w1 bN 0 [.int .i64 y.nid, .int .i64 y.tier, .int .i64 y.parent, .int .i64 y.at1, .int .i64 y.at2, .int .i64 y.rank, .string y.text] hth
              refine wp_store_mid 58 (.tmp 13) (.tmp 47) rfl bN 0 #[.int .i64 y.nid, .int .i64 y.tier, .int .i64 y.parent, .int .i64 y.at1, .int .i64 y.at2, .int .i64 y.rank, .string y.text] hev1 hev2 hth (by kernel_rfl) (by simp [Value.oneCell']) ?_
              rw [hwS]
              exact hK undef wS trivial ⟨by kernel_rfl, bN, hvN, h0N, h1N, hX, hR⟩
            refine And.intro (fun w1 vals hB hd a1 ha1 K hK => ?_) ?_
            · have e8 : vals 8 = .bool bs := toldA_at (hd 8 rfl) rfl
              clear hd
              subst ha1
              simp only [putAll, Act.put, pS] at hK ⊢
              simp only [e8] at hK ⊢
              clear e8
              refine gwp_none rfl ?_
              go_simp
              exact hK _ _ rfl (Below.refl _ _)
            exact trivial
          · intro w1 vals hB hd hfl
            have e11 : vals 11 = .bool bs := toldA_at (hd 11 (by decide)) rfl
            obtain ⟨bN, hvN, h0N, h1N, hrN⟩ := hfl (by decide)
            clear hfl
            clear hd
            simp only [putAll, Act.put, pS]
            simp only [e11, hvN]
            clear e11 hvN
            obtain ⟨w5, hw5⟩ : ∃ w5, w1 = w5 := ⟨_, rfl⟩
            rw [hw5] at hB hrN h1N ⊢
            clear hw5
            have HB5 : Hid (Below w3.heap.size w3 w5) := HB4.out.trans (hB.mono hz4)
            have HB05 : Hid (Below W0.heap.size W0 w5) := HB2.out.trans (HB5.out.mono HB2.out.size)
            have HO8a := Lib.hid (HO8.out.on hB)
            have HO9a := Lib.hid (HO9.out.on hB)
            have HO10a := Lib.hid (HO10.out.on hB)
            have HYN : Hid (∀ W, Below w5.heap.size w5 W → W.cell? ⟨bN, 6, none⟩ = some (.string y.text)) := fun W hW => (hW.cell (by exact h1N)).trans (hrN 6 _ rfl)
            have HD13 : Hid (∀ W, Below w5.heap.size w5 W → W.rangeAt w.heap.size 0 [.int .i64 rid, .string name, .int .i64 len, .int .i64 day, .slice sa sn sc, .slice ta tn tc, .slice na nn nc]) := fun W hW => HD.out W (HB05.out.trans (hW.mono HB05.out.size))
            have HCX13 : Hid (∀ W, Below w5.heap.size w5 W → W.cell? (bd.add i) = some (.int .i64 x)) := fun W hW => HCB.out W (HB5.out.trans (hW.mono HB5.out.size))
            have HSH13 := Lib.hid fun (W : World) (hW : Below w5.heap.size w5 W) => HSS0.out W (HBW.out _ (HB05.out.trans (hW.mono HB05.out.size)))
            have hz5 := HB5.out.size
            clear hB hrN h0N h1N HD12 HCX HGX HO8 HO9 HO10 HSS0
            go_upto_region 13 with fail
            refine wp_region_toldV [Told.is (.agg #[.int .i64 rid, .string name, .int .i64 len, .int .i64 day, .slice sa sn sc, .slice ta tn tc, .slice na nn nc]), Told.is (.slice (some bd) wl c7), Told.is (.int .i64 (i : Int)), Told.is (.pointer (some (bd.add i))), Told.is (.int .i64 x), Told.such (fun v W => ∃ v1 v2, v = .tuple #[v1, v2] ∧ OwnS W w5.heap.size v1 fs ∧ OwnS W w5.heap.size v2 gs) (fun v W W' ⟨v1, v2, h0, h1, h2⟩ hb => ⟨v1, v2, h0, h1.on hb, h2.on hb⟩), Told.such (fun v W => ∃ v1 v2, v = .tuple #[v1, v2] ∧ OwnS W w5.heap.size v1 fs ∧ OwnS W w5.heap.size v2 gs) (fun v W W' ⟨v1, v2, h0, h1, h2⟩ hb => ⟨v1, v2, h0, h1.on hb, h2.on hb⟩), Told.such (fun v W => OwnS W w5.heap.size v fs) (fun v W W' h hb => OwnS.on h hb), Told.such (fun v W => OwnS W w5.heap.size v gs) (fun v W W' h hb => OwnS.on h hb), Told.such (fun v W => OwnS W w5.heap.size v fs) (fun v W W' h hb => OwnS.on h hb), Told.such (fun v W => OwnS W w5.heap.size v gs) (fun v W W' h hb => OwnS.on h hb)] (by kernel_rfl) (by kernel_rfl) ?_ ?_
            · refine And.intro (fun w1 vals hB hd K hK => ?_) ?_
              · clear hd
                simp only [putAll, Act.put, pS] at hK ⊢
                refine gwp_none rfl ?_
                refine wp_load_mid 38 (.tmp 2) rfl w.heap.size 0 rfl [.int .i64 rid, .string name, .int .i64 len, .int .i64 day, .slice sa sn sc, .slice ta tn tc, .slice na nn nc] _ (HD13.out w1 hB) Tryz.underlying38 rfl (by kernel_rfl) ?_
                simp only [Act.put, pS]
                exact hK _ _ rfl (Below.refl _ _)
              refine And.intro (fun w1 vals hB hd K hK => ?_) ?_
              · clear hd
                simp only [putAll, Act.put, pS] at hK ⊢
                refine gwp_none rfl ?_
                go_simp
                exact hK _ _ rfl (Below.refl _ _)
              refine And.intro (fun w1 vals hB hd K hK => ?_) ?_
              · clear hd
                simp only [putAll, Act.put, pS] at hK ⊢
                refine gwp_none rfl ?_
                go_simp
                exact hK _ _ rfl (Below.refl _ _)
              refine And.intro (fun w1 vals hB hd K hK => ?_) ?_
              · have e1 : vals 1 = .slice (some bd) wl c7 := told_at (hd 1 rfl) rfl
                have e2 : vals 2 = .int .i64 (i : Int) := told_at (hd 2 rfl) rfl
                clear hd
                simp only [putAll, Act.put, pS] at hK ⊢
                simp only [e1, e2] at hK ⊢
                clear e1 e2
                refine gwp_none rfl ?_
                go_simp
                exact hK _ _ rfl (Below.refl _ _)
              refine And.intro (fun w1 vals hB hd K hK => ?_) ?_
              · have e3 : vals 3 = .pointer (some (bd.add i)) := told_at (hd 3 rfl) rfl
                clear hd
                simp only [putAll, Act.put, pS] at hK ⊢
                simp only [e3] at hK ⊢
                clear e3
                refine gwp_none rfl ?_
                have hc := HCX13.out w1 hB
                go_simp
                exact hK _ _ rfl (Below.refl _ _)
              refine And.intro (fun w1 vals hB hd K hK => ?_) ?_
              · have e0 : vals 0 = .agg #[.int .i64 rid, .string name, .int .i64 len, .int .i64 day, .slice sa sn sc, .slice ta tn tc, .slice na nn nc] := told_at (hd 0 rfl) rfl
                have e4 : vals 4 = .int .i64 x := told_at (hd 4 rfl) rfl
                clear hd
                simp only [putAll, Act.put, pS] at hK ⊢
                simp only [e0, e4] at hK ⊢
                clear e0 e4
                refine gwp_none rfl ?_
                go_simp
                refine (HSH13.out w1 hB).mono ?_
                rintro e w4 ⟨v, u, rfl, hO1, hO2, hb4⟩
                exact hK _ _ ⟨v, u, rfl, own_base hO1 hB.size, own_base hO2 hB.size⟩ hb4
              refine And.intro (fun w1 vals hB hd K hK => ?_) ?_
              · have p5 := told_at (t := Told.such (fun v W => ∃ v1 v2, v = .tuple #[v1, v2] ∧ OwnS W w5.heap.size v1 fs ∧ OwnS W w5.heap.size v2 gs) (fun v W W' ⟨v1, v2, h0, h1, h2⟩ hb => ⟨v1, v2, h0, h1.on hb, h2.on hb⟩)) (hd 5 rfl) rfl
                simp only [Told.holds] at p5
                clear hd
                generalize hx5 : vals 5 = x5
                rw [hx5] at p5
                simp only [putAll, Act.put, pS] at hK ⊢
                simp only [hx5] at hK ⊢
                clear hx5
                refine gwp_none rfl ?_
                go_simp
                exact hK _ _ p5 (Below.refl _ _)
              refine And.intro (fun w1 vals hB hd K hK => ?_) ?_
              · have p6 := told_at (t := Told.such (fun v W => ∃ v1 v2, v = .tuple #[v1, v2] ∧ OwnS W w5.heap.size v1 fs ∧ OwnS W w5.heap.size v2 gs) (fun v W W' ⟨v1, v2, h0, h1, h2⟩ hb => ⟨v1, v2, h0, h1.on hb, h2.on hb⟩)) (hd 6 rfl) rfl
                simp only [Told.holds] at p6
                clear hd
                generalize hx6 : vals 6 = x6
                rw [hx6] at p6
                simp only [putAll, Act.put, pS] at hK ⊢
                simp only [hx6] at hK ⊢
                clear hx6
                refine gwp_none rfl ?_
                obtain ⟨v1, v2, rfl, h1, h2⟩ := p6
                go_simp
                exact hK _ _ h1 (Below.refl _ _)
              refine And.intro (fun w1 vals hB hd K hK => ?_) ?_
              · have p6 := told_at (t := Told.such (fun v W => ∃ v1 v2, v = .tuple #[v1, v2] ∧ OwnS W w5.heap.size v1 fs ∧ OwnS W w5.heap.size v2 gs) (fun v W W' ⟨v1, v2, h0, h1, h2⟩ hb => ⟨v1, v2, h0, h1.on hb, h2.on hb⟩)) (hd 6 rfl) rfl
                simp only [Told.holds] at p6
                clear hd
                generalize hx6 : vals 6 = x6
                rw [hx6] at p6
                simp only [putAll, Act.put, pS] at hK ⊢
                simp only [hx6] at hK ⊢
                clear hx6
                refine gwp_none rfl ?_
                obtain ⟨v1, v2, rfl, h1, h2⟩ := p6
                go_simp
                exact hK _ _ h2 (Below.refl _ _)
              refine And.intro (fun w1 vals hB hd K hK => ?_) ?_
              · have p7 := told_at (t := Told.such (fun v W => OwnS W w5.heap.size v fs) (fun v W W' h hb => OwnS.on h hb)) (hd 7 rfl) rfl
                simp only [Told.holds] at p7
                clear hd
                generalize hx7 : vals 7 = x7
                rw [hx7] at p7
                simp only [putAll, Act.put, pS] at hK ⊢
                simp only [hx7] at hK ⊢
                clear hx7
                refine gwp_none rfl ?_
                go_simp
                exact hK _ _ p7 (Below.refl _ _)
              refine And.intro (fun w1 vals hB hd K hK => ?_) ?_
              · have p8 := told_at (t := Told.such (fun v W => OwnS W w5.heap.size v gs) (fun v W W' h hb => OwnS.on h hb)) (hd 8 rfl) rfl
                simp only [Told.holds] at p8
                clear hd
                generalize hx8 : vals 8 = x8
                rw [hx8] at p8
                simp only [putAll, Act.put, pS] at hK ⊢
                simp only [hx8] at hK ⊢
                clear hx8
                refine gwp_none rfl ?_
                go_simp
                exact hK _ _ p8 (Below.refl _ _)
              exact trivial
            · intro w1 vals hB hd
              have p9 := told_at (t := Told.such (fun v W => OwnS W w5.heap.size v fs) (fun v W W' h hb => OwnS.on h hb)) (hd 9 (by decide)) rfl
              simp only [Told.holds] at p9
              have p10 := told_at (t := Told.such (fun v W => OwnS W w5.heap.size v gs) (fun v W W' h hb => OwnS.on h hb)) (hd 10 (by decide)) rfl
              simp only [Told.holds] at p10
              obtain ⟨x9, hx9⟩ : ∃ x, vals 9 = x := ⟨_, rfl⟩
              rw [hx9] at p9
              obtain ⟨x10, hx10⟩ : ∃ x, vals 10 = x := ⟨_, rfl⟩
              rw [hx10] at p10
              clear hd
              simp only [putAll, Act.put, pS]
              simp only [hx9, hx10]
              clear hx9 hx10
              have HB6 : Hid (Below w3.heap.size w3 w1) := HB5.out.trans (hB.mono hz5)
              have hz6 := HB6.out.size
              have HO8 := Lib.hid (HO8a.out.on hB)
              have HO9 := Lib.hid (HO9a.out.on hB)
              have HO10 := Lib.hid (HO10a.out.on hB)
              obtain ⟨vA, hvA9⟩ : ∃ z, x9 = z := ⟨_, rfl⟩
              obtain ⟨vB, hvB10⟩ : ∃ z, x10 = z := ⟨_, rfl⟩
              rw [hvA9] at p9 ⊢
              rw [hvB10] at p10 ⊢
              clear hvA9 hvB10
              have HOA := Lib.hid p9
              have HOB := Lib.hid p10
              have HAA8 : Hid (Apart vA u8) := fun b2 hb2 he => by have h1 := (p9.lt b2 hb2).1; have h2 := (World.ownsRow.lt HO8a.out b2 he).2; omega
              have HAA9 : Hid (Apart vA u9) := fun b2 hb2 he => by have h1 := (p9.lt b2 hb2).1; have h2 := (World.ownsRow.lt HO9a.out b2 he).2; omega
              have HAB8 : Hid (Apart vB u8) := fun b2 hb2 he => by have h1 := (p10.lt b2 hb2).1; have h2 := (World.ownsRow.lt HO8a.out b2 he).2; omega
              have HAB9 : Hid (Apart vB u9) := fun b2 hb2 he => by have h1 := (p10.lt b2 hb2).1; have h2 := (World.ownsRow.lt HO9a.out b2 he).2; omega
              have HAB10 : Hid (Apart vB u10) := fun b2 hb2 he => by have h1 := (p10.lt b2 hb2).1; have h2 := (World.ownsRow.lt HO10a.out b2 he).2; omega
              have c6 := HYN.out w1 hB
              obtain ⟨AL, cL, hvL, _, _, _⟩ := OwnS.form p9
              subst hvL
              obtain ⟨AM, cM, hvM, _, _, _⟩ := OwnS.form p10
              subst hvM
              obtain ⟨wq, hwq⟩ : ∃ wq, w1 = wq := ⟨_, rfl⟩
              rw [hwq] at HB6 hz6 HO8 HO9 HO10 HOA HOB c6 ⊢
              clear hwq p9 p10 hB HD13 HCX13 HSH13 HO8a HO9a HO10a HYN
              cases sm with
              | true =>
                go_wp2_with (first
                  | (at_builtin; refine wpList_app1 rfl (.tmp 64) (.tmp 67) 45 rfl w3.heap.size 9 16 (.string .empty) info_string rfl Tryz.underlying45 rfl HO8.out rfl rfl (by omega) (by omega) hz6 ?_; rintro vx8 wz1 hownX hbX hsX hkx; have HX9 := Lib.hid (hkx _ _ _ _ _ _ HO9.out HAP89.out.symm); have HX10 := Lib.hid (hkx _ _ _ _ _ _ HO10.out HAP810.out.symm); have HXA := Lib.hid (hkx _ _ _ _ _ _ HOA.out HAA8.out); have HXB := Lib.hid (hkx _ _ _ _ _ _ HOB.out HAB8.out); have hzX : w3.heap.size ≤ wz1.heap.size := (by omega); obtain ⟨AA, cA, hvA, hA1, hA2, hA3⟩ := OwnS.form (show OwnS wz1 w5.heap.size (.slice AL fs.length cL) fs from HXA.out.1); cases hvA; have HJ1 := Lib.hid (refJoin_any AL fs.length cL fs wz1 hA3 HZ1.out))
                  | (with_reducible refine HJ1.out.mono ?_; rintro e wz ⟨rfl, rfl⟩)
                  | (at_builtin; refine wpList_app1 rfl (.tmp 69) (.tmp 72) 45 rfl w3.heap.size 9 16 (.string .empty) info_string rfl Tryz.underlying45 rfl HX9.out.1 rfl rfl (by omega) (by omega) hzX ?_; rintro vy9 wz2 hownY hbY hsY hky; have HA8 := Lib.hid (hky _ _ _ _ _ _ hownX HX9.out.2.symm); have HY10 := Lib.hid (hky _ _ _ _ _ _ HX10.out.1 HAP910.out.symm); have HYB := Lib.hid (hky _ _ _ _ _ _ HXB.out.1 HAB9.out); have hzY : w3.heap.size ≤ wz2.heap.size := (by omega); obtain ⟨AB, cB, hvB, hB1, hB2, hB3⟩ := OwnS.form (show OwnS wz2 w5.heap.size (.slice AM gs.length cM) gs from HYB.out.1); cases hvB; have HJ2 := Lib.hid (refJoin_any AM gs.length cM gs wz2 hB3 HZ2.out))
                  | (with_reducible refine HJ2.out.mono ?_; rintro e wz ⟨rfl, rfl⟩)
                  | (at_builtin; refine wpList_app1 rfl (.tmp 74) (.tmp 77) 45 rfl w3.heap.size 9 16 (.string .empty) info_string rfl Tryz.underlying45 rfl HY10.out.1 rfl rfl (by omega) (by omega) hzY ?_; rintro vz10 wz3 hownZ hbZ hsZ hkz))
                have HF8 := Lib.hid (hkz _ _ _ _ _ _ HA8.out.1 HX10.out.2.symm)
                have HF9 := Lib.hid (hkz _ _ _ _ _ _ hownY HY10.out.2.symm)
                have HR8 : Hid (OwnS wz3 w3.heap.size vx8 (r1 ++ [y.text])) := own_s (n := 0) HF8.out.1
                have HR9 : Hid (OwnS wz3 w3.heap.size vy9 (r2 ++ [joinD fs])) := own_s (n := 0) HF9.out.1
                have HR10 : Hid (OwnS wz3 w3.heap.size vz10 (r3 ++ [joinD gs])) := own_s (n := 0) hownZ
                have HBE : Hid (Below w3.heap.size w3 wz3) := ((HB6.out.trans hbX).trans hbY).trans hbZ
                have HA89 := Lib.hid HA8.out.2
                have HA810 := Lib.hid HF8.out.2
                have HA910 := Lib.hid HF9.out.2
                rw [← HN1.out] at HR8
                rw [← HN2.out] at HR9
                rw [← HN3.out] at HR10
                clear hownX hownY hownZ hbX hbY hbZ hkx hky hkz
                go_wp2
                go_roundw
                case rel =>
                  first
                    | exact ⟨i + 1, HLT.out, by go_num, by rw [HSN.out]; simp, HR8, HR9, HR10, HA89, HA810, HA910, HBE⟩
                    | ((repeat apply Exists.intro); refine ⟨?_, rfl⟩; exact ⟨i + 1, HLT.out, by go_num, by rw [HSN.out]; simp, HR8, HR9, HR10, HA89, HA810, HA910, HBE⟩)
                case measure => have := HLT.out; simp [intOf]; omega
              | false =>
                go_wp2_with (first
                  | (at_builtin; refine wpList_app1 rfl (.tmp 64) (.tmp 67) 45 rfl w3.heap.size 9 16 (.string .empty) info_string rfl Tryz.underlying45 rfl HO8.out rfl rfl (by omega) (by omega) hz6 ?_; rintro vx8 wz1 hownX hbX hsX hkx; have HX9 := Lib.hid (hkx _ _ _ _ _ _ HO9.out HAP89.out.symm); have HX10 := Lib.hid (hkx _ _ _ _ _ _ HO10.out HAP810.out.symm); have HXA := Lib.hid (hkx _ _ _ _ _ _ HOA.out HAA8.out); have HXB := Lib.hid (hkx _ _ _ _ _ _ HOB.out HAB8.out); have hzX : w3.heap.size ≤ wz1.heap.size := (by omega); obtain ⟨AA, cA, hvA, hA1, hA2, hA3⟩ := OwnS.form (show OwnS wz1 w5.heap.size (.slice AL fs.length cL) fs from HXA.out.1); cases hvA; have HJ1 := Lib.hid (refJoin_any AL fs.length cL fs wz1 hA3 HZ1.out))
                  | (with_reducible refine HJ1.out.mono ?_; rintro e wz ⟨rfl, rfl⟩)
                  | (at_builtin; refine wpList_app1 rfl (.tmp 69) (.tmp 72) 45 rfl w3.heap.size 9 16 (.string .empty) info_string rfl Tryz.underlying45 rfl HX9.out.1 rfl rfl (by omega) (by omega) hzX ?_; rintro vy9 wz2 hownY hbY hsY hky; have HA8 := Lib.hid (hky _ _ _ _ _ _ hownX HX9.out.2.symm); have HY10 := Lib.hid (hky _ _ _ _ _ _ HX10.out.1 HAP910.out.symm); have HYB := Lib.hid (hky _ _ _ _ _ _ HXB.out.1 HAB9.out); have hzY : w3.heap.size ≤ wz2.heap.size := (by omega); obtain ⟨AB, cB, hvB, hB1, hB2, hB3⟩ := OwnS.form (show OwnS wz2 w5.heap.size (.slice AM gs.length cM) gs from HYB.out.1); cases hvB; have HJ2 := Lib.hid (refJoin_any AM gs.length cM gs wz2 hB3 HZ2.out))
                  | (with_reducible refine HJ2.out.mono ?_; rintro e wz ⟨rfl, rfl⟩)
                  | (at_builtin; refine wpList_app1 rfl (.tmp 74) (.tmp 77) 45 rfl w3.heap.size 9 16 (.string .empty) info_string rfl Tryz.underlying45 rfl HY10.out.1 rfl rfl (by omega) (by omega) hzY ?_; rintro vz10 wz3 hownZ hbZ hsZ hkz))
                have HF8 := Lib.hid (hkz _ _ _ _ _ _ HA8.out.1 HX10.out.2.symm)
                have HF9 := Lib.hid (hkz _ _ _ _ _ _ hownY HY10.out.2.symm)
                have HR8 : Hid (OwnS wz3 w3.heap.size vx8 (r1 ++ [y.text])) := own_s (n := 0) HF8.out.1
                have HR9 : Hid (OwnS wz3 w3.heap.size vy9 (r2 ++ [joinD fs])) := own_s (n := 0) HF9.out.1
                have HR10 : Hid (OwnS wz3 w3.heap.size vz10 (r3 ++ [joinD gs])) := own_s (n := 0) hownZ
                have HBE : Hid (Below w3.heap.size w3 wz3) := ((HB6.out.trans hbX).trans hbY).trans hbZ
                have HA89 := Lib.hid HA8.out.2
                have HA810 := Lib.hid HF8.out.2
                have HA910 := Lib.hid HF9.out.2
                rw [← HN1.out] at HR8
                rw [← HN2.out] at HR9
                rw [← HN3.out] at HR10
                clear hownX hownY hownZ hbX hbY hbZ hkx hky hkz
                go_wp2
                go_roundw
                case rel =>
                  first
                    | exact ⟨i + 1, HLT.out, by go_num, by rw [HSN.out]; simp, HR8, HR9, HR10, HA89, HA810, HA910, HBE⟩
                    | ((repeat apply Exists.intro); refine ⟨?_, rfl⟩; exact ⟨i + 1, HLT.out, by go_num, by rw [HSN.out]; simp, HR8, HR9, HR10, HA89, HA810, HA910, HBE⟩)
                case measure => have := HLT.out; simp [intOf]; omega
        · obtain rfl : i = wl := by omega
          have hiz : ¬ (i : Int) < (i : Int) := by omega
          rw [← HWL.out, List.take_length] at HO8 HO9 HO10 hsm
          obtain ⟨B1, d1, hv1, h1a, h1b, h1r⟩ := OwnS.form HO8.out
          obtain ⟨B2, d2, hv2, h2a, h2b, h2r⟩ := OwnS.form HO9.out
          obtain ⟨B3, d3, hv3, h3a, h3b, h3r⟩ := OwnS.form HO10.out
          subst hv1
          subst hv2
          subst hv3
          have HC3 := Lib.hid (rowsC_new w4 45 [.slice B1 (row1 T l ws).length d1, .slice B2 (row2 T l ws).length d2, .slice B3 (row3 T l ws).length d3] #[.slice B1 (row1 T l ws).length d1, .slice B2 (row2 T l ws).length d2, .slice B3 (row3 T l ws).length d3] rfl [row1 T l ws, row2 T l ws, row3 T l ws] 3 rfl rfl (fun i l hil => by
            match i, hil with
            | 0, hil => cases hil; exact ⟨_, _, _, rfl, h1r, h1a, h1b⟩
            | 1, hil => cases hil; exact ⟨_, _, _, rfl, h2r, h2a, h2b⟩
            | 2, hil => cases hil; exact ⟨_, _, _, rfl, h3r, h3a, h3b⟩))
          have HC1 := Lib.hid (rowsC_new w4 45 [.slice B1 (row1 T l ws).length d1] #[.slice B1 (row1 T l ws).length d1] rfl [row1 T l ws] 1 rfl rfl (fun i l hil => by
            match i, hil with
            | 0, hil => cases hil; exact ⟨_, _, _, rfl, h1r, h1a, h1b⟩))
          have HSM := Lib.hid hsm
          clear hsm h1a h1b h1r h2a h2b h2r h3a h3b h3r
          cases sm with
          | true =>
            go_wp2
            go_ret
            refine ⟨⟨fun h => (by cases h), fun _ => ⟨w4.heap.size, 3, 3, rfl, ?_, Nat.le_refl _, by omega⟩⟩, HBW.out _ (HB04.out.alloc HB04.out.size _)⟩
            (try rw [if_pos rfl, if_neg HWS.out])
            unfold rowsW
            rw [if_pos HSM.out]
            exact HC3.out
          | false =>
            go_wp2
            go_ret
            refine ⟨⟨fun h => (by cases h), fun _ => ⟨w4.heap.size, 1, 1, rfl, ?_, by omega, by omega⟩⟩, HBW.out _ (HB04.out.alloc HB04.out.size _)⟩
            (try rw [if_pos rfl, if_neg HWS.out])
            unfold rowsW
            rw [if_neg (by rw [HSM.out]; simp)]
            exact HC1.out
def RwO (L : List (List ByteArray)) (v : Value) (W : World) : Prop := ∃ A n c, v = .slice A n c ∧ RowsC W W.heap.size A n L ∧ n ≤ 9223372036854775807
theorem RwO.on {L : List (List ByteArray)} {v : Value} {W W' : World} (h : RwO L v W) (hb : Below W.heap.size W W') : RwO L v W' := by
 obtain ⟨A, n, c, e, hr, hn⟩ := h
 exact ⟨A, n, c, e, hr.on hb, hn⟩
theorem RwO.of {T : List Ti} {l : List Nt} {id : Int} {K : Nat} {e : Ending} {W : World} (h : RowsV (getN l id).isSome (rowsL T l id K) e W) : ∃ v, e = .returned v ∧ RwO (rowsL T l id K) v W := by
 cases hb : (getN l id).isSome with
 | false =>
  have h0 : rowsL T l id K = [] := by unfold rowsL; rw [hb]; rfl
  rw [h0]
  exact ⟨_, h.1 hb, none, 0, 0, rfl, RowsC.none_ _ _, by omega⟩
 | true =>
  obtain ⟨g, n, c, e1, h1, h2, h3⟩ := h.2 hb
  exact ⟨_, e1, _, _, _, rfl, h1, by omega⟩
end Go.Proofs.YthcabnfcgjnlnaaGreatDoor
