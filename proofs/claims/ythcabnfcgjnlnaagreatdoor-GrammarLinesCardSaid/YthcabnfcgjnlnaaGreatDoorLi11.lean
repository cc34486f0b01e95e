import Derived.Test.YthcabnfcgjnlnaaGreatDoorB14
import Derived.Test.YthcabnfcgjnlnaaGreatDoorLi10
import Derived.ChangeKeysEq
import Derived.Laws.StructEq
set_option linter.unusedVariables false
set_option linter.unusedSimpArgs false
namespace Go.Proofs.YthcabnfcgjnlnaaGreatDoor
section
open Go.RowKit Ru Lay
attribute [local go_sem ↓] Go.wp_at_zero Go.wp_at_succ
set_option maxHeartbeats 8000000 in
set_option maxRecDepth 100000 in
theorem refRows_any (d : Dv) (T : List Ti) (l : List Nt) (id : Int) (K : Nat) (w : World) (hT : TiersR w w.heap.size d.ta d.tn T) (hl : NotesR w w.heap.size d.na d.nn l) (hok : DocOk T l) (hn : d.nn < 20) (htn : d.tn <= 1000000)
    (hend : ∀ x, curF l x K = none) (hK : K <= d.tn + 1) :
    Calls Tryz.prog 20 #[docV d, .int .i64 id] w fun e w' => RowsV (getN l id).isSome (rowsL T l id K) e w' /\ Below w.heap.size w w' := by
  have hz : TxtZ l := fun y hy => hok.text hy
  have HG := hI fun (W : World) (hW : Below w.heap.size w W) (i : Int) => refGet_any d l i W (hl.on hW) (by omega)
  have HWO := hI fun (W : World) (hW : Below w.heap.size w W) => refWords_any d T l id K W (hT.on hW) (hl.on hW) hok.light hn htn hend hK
  have HSH := hI fun (W : World) (hW : Below w.heap.size w W) (i : Int) => refShown_any d T l i W (hT.on hW) (hl.on hW) hok hn htn
  have hNl := hl.len;have hfz : ∀ i, SzS (formsL T l i) := fun i => ⟨by have := forms_len (T := T) (l := l) (id := i); omega, fun s hs => by have := forms_sz hz s hs; omega⟩
  have hgz : ∀ i, SzS (glossesL T l i) := fun i => ⟨by have := forms_len (T := T) (l := l) (id := i); rw [<- glosses_len] at this; omega, fun s hs => by have := glosses_sz hz s hs; omega⟩
  have hwl : (wordsL T l id K).length <= 20 := by have := wordsL_len (T := T) (l := l) (id := id) (K := K); omega
  clear hT hl hok hend hNl hz;unfold docV at HG HWO HSH;unfold docV;obtain ⟨rid, name, len, day, sa, sn, sc, ta, tn, tc, na, nn, nc⟩ := d;simp only at HG HWO HSH hn htn hK |-;unfold rowsL;have htx0 : textN l id = ((getN l id).getD nt0).text := rfl;rw [htx0];obtain ⟨bs0, hbs0⟩ : ∃ x, (getN l id).isSome = x := ⟨_, rfl⟩;obtain ⟨y0, hy0⟩ : ∃ x, (getN l id).getD nt0 = x := ⟨_, rfl⟩;obtain ⟨ws, hws⟩ : ∃ x, wordsL T l id K = x := ⟨_, rfl⟩;rw [hbs0, hy0, hws];rw [hws] at HWO hwl;obtain ⟨W0, hW0, hz0, hB0, hK0⟩ := doc_cells w rid name len day sa ta na sn sc tn tc nn nc;have HB := hI hB0;have HK := hI hK0;have HD : Hid (∀ W, Below W0.heap.size W0 W -> W.rangeAt w.heap.size 0 [.int .i64 rid, .string name, .int .i64 len, .int .i64 day, .slice sa sn sc, .slice ta tn tc, .slice na nn nc]) := hK0;have HBW : Hid (∀ W, Below W0.heap.size W0 W -> Below w.heap.size w W) := fun W hW => HB.out.trans (hW.mono HB.out.size)
  have HG0 := hI (HG.out W0 HB.out id);unfold getV noteV at HG0;rw [hbs0, hy0] at HG0;have HFZ := hI hfz;have HGZ := hI hgz;clear hB0 hK0 hbs0 hy0 hws htx0 hfz hgz;go_enter Tryz.func20, Tryz.ntmps20
  go_upto_region 1 with fail
  (try rw [hW0])
  clear hW0;obtain ⟨k0, k1, k2, k3, k4, k5, k6⟩ := range7 (HK.out W0 (Below.refl _ _));go_wp2_with fail
  refine HG0.out.mono ?_;rintro e w1 ⟨rfl, hb1⟩;obtain ⟨p0, hp0⟩ : ∃ p0, w1.heap.size = p0 := ⟨_, rfl⟩;obtain ⟨W1, hW1⟩ : ∃ W1, w1.alloc (.cells #[.int .i64 y0.nid, .int .i64 y0.tier, .int .i64 y0.parent, .int .i64 y0.at1, .int .i64 y0.at2, .int .i64 y0.rank, .string y0.text] 58) = W1 := ⟨_, rfl⟩;have hz1 : W1.heap.size = p0 + 1 := by rw [<- hW1, <- hp0]; simp
  have HB1 : Hid (Below W0.heap.size W0 W1) := by rw [<- hW1]; exact hb1.alloc hb1.size _
  have HY0 : Hid (∀ W, Below W1.heap.size W1 W -> W.cell? ⟨p0, 6, none⟩ = some (.string y0.text)) := fun W hW => by
    rw [hW.cell (by show p0 < _; omega), <- hW1, <- hp0, World.cell?_alloc_new]; rfl
  clear hb1 k0 k1 k2 k3 k4 k5 k6 HG0;go_upto_region 2 with fail
  (try rw [hW1])
  (try rw [hp0])
  clear hW1 hp0
  cases bs0 with
  | false =>
    go_wp2;go_ret;exact ⟨⟨fun _ => rfl, fun h => (by cases h)⟩, HBW.out _ HB1.out⟩
  | true =>
    obtain ⟨k0, k1, k2, k3, k4, k5, k6⟩ := range7 (HK.out W1 HB1.out);have HWW := hI (HWO.out W1 (HBW.out _ HB1.out));go_wp2_with fail
    refine HWW.out.mono ?_;rintro e w2 ⟨v2, rfl, hO2, hb2⟩;obtain ⟨A2, c7, hv2, h2a, h2b, h2r⟩ := OwnI.form hO2;subst hv2;have HIR := hI h2r;have HB12 := hI hb2;have HB2 := hI (HB1.out.trans (hb2.mono HB1.out.size));clear hb2 k0 k1 k2 k3 k4 k5 k6 HWW HWO hO2 h2a h2b h2r;by_cases h0 : ws = []
    · subst h0
      have c6 := HY0.out w2 HB12.out;clear HY0;go_wp2;go_ret;have hb4 : Below w2.heap.size w2 (w2.alloc (.cells #[.string y0.text] 9)) := bR.alloc (Nat.le_refl _) _;refine ⟨⟨fun h => (by cases h), fun _ => ⟨w2.heap.size + 1, 1, 1, rfl, ?_, Nat.le_refl _, by omega⟩⟩, HBW.out _ (HB2.out.trans (((hb4.alloc hb4.size _)).mono HB2.out.size))⟩
      first
        | exact rowsC_one w2 y0.text _ _
        | (rw [if_pos rfl]; exact rowsC_one w2 y0.text _ _)
        | (rw [if_pos rfl, if_pos rfl]; exact rowsC_one w2 y0.text _ _)
    · have hne : 0 < ws.length := by
        cases ws with
        | nil => exact absurd rfl h0
        | cons a r => simp
      have hq : ((ws.length : Int) == 0) = false := beq_eq_false_iff_ne.2 (by omega);have hq2 : ¬ ((ws.length : Int) = 0) := by omega
      have hq3 : ¬ (ws.length = 0) := by omega
      have HWS := hI h0;obtain ⟨wl, hwlq⟩ : ∃ x, ws.length = x := ⟨_, rfl⟩;have HWL := hI hwlq;rw [hwlq] at hwl hne hq hq2 hq3 HIR |-;clear h0 hwlq;obtain ⟨w3, hw3⟩ : ∃ w3, w2 = w3 := ⟨_, rfl⟩;rw [hw3] at HIR HB12 HB2 |-;clear hw3;go_wp2_with fail
      go_loopw [8, 9, 10, 11, 12, 13, 14, 15, 16, 37] (fun v8 v9 v10 v11 v12 v13 v14 v15 v16 v37 wr => ∃ i : Nat, i <= wl /\ v37 = .int .i64 i /\ v11 = .bool (someB T l (ws.take i)) /\ Hid (OwnS wr w3.heap.size v8 (row1 T l (ws.take i))) /\ Hid (OwnS wr w3.heap.size v9 (row2 T l (ws.take i))) /\ Hid (OwnS wr w3.heap.size v10 (row3 T l (ws.take i))) /\ Hid (Apart v8 v9) /\ Hid (Apart v8 v10) /\ Hid (Apart v9 v10) /\ Hid (Below w3.heap.size w3 wr)) (fun _ _ _ _ _ _ _ _ _ v37 _ => wl - (intOf v37).toNat)
      case atStart => exact ⟨0, Nat.zero_le _, rfl, rfl, OwnS.nil _ _, OwnS.nil _ _, OwnS.nil _ _, Apart.nil_left _, Apart.nil_left _, Apart.nil_left _, Below.refl _ _⟩
      case round =>
        obtain ⟨i, hi, rfl, rfl, HO8, HO9, HO10, HAP89, HAP810, HAP910, HB4⟩ := hrel;obtain ⟨w4, hw4⟩ : ∃ w4, wr = w4 := ⟨_, rfl⟩;rw [hw4] at HO8 HO9 HO10 HB4 |-;clear hw4;have HB04 : Hid (Below W0.heap.size W0 w4) := HB2.out.trans (HB4.out.mono HB2.out.size);have hz4 := HB4.out.size;obtain ⟨sm, hsm⟩ : ∃ x, someB T l (ws.take i) = x := ⟨_, rfl⟩;rw [hsm];by_cases hlt : i < wl
        · have hiz : (i : Int) < (wl : Int) := by omega
          have hiA : (0 : Int) <= (i : Int) := by omega
          obtain ⟨bd, x, hA, hbb, hidx, hc⟩ := HIR.out.at_ hlt;subst hA;have HLT := hI hlt;have HCB : Hid (∀ W, Below w3.heap.size w3 W -> W.cell? (bd.add i) = some (.int .i64 x)) := fun W hW => (hW.cell (by rw [block_of_add]; exact hbb)).trans hc
          have HCX : Hid (∀ W, Below w4.heap.size w4 W -> W.cell? (bd.add i) = some (.int .i64 x)) := fun W hW => HCB.out W (HB4.out.trans (hW.mono hz4))
          have HN1 : Hid (row1 T l (ws.take (i + 1)) = row1 T l (ws.take i) ++ [textN l x]) := map_next _ hidx;have HN2 : Hid (row2 T l (ws.take (i + 1)) = row2 T l (ws.take i) ++ [joinD (formsL T l x)]) := map_next _ hidx;have HN3 : Hid (row3 T l (ws.take (i + 1)) = row3 T l (ws.take i) ++ [joinD (glossesL T l x)]) := map_next _ hidx;have HSN : Hid (someB T l (ws.take (i + 1)) = (sm || decide (0 < (formsL T l x).length))) := by rw [<- hsm]; exact someB_next hidx
          have hl1 : (row1 T l (ws.take i)).length <= 20 := by unfold row1; rw [List.length_map, List.length_take]; omega
          have hl2 : (row2 T l (ws.take i)).length <= 20 := by unfold row2; rw [List.length_map, List.length_take]; omega
          have hl3 : (row3 T l (ws.take i)).length <= 20 := by unfold row3; rw [List.length_map, List.length_take]; omega
          obtain ⟨r1, hr1⟩ : ∃ x, row1 T l (ws.take i) = x := ⟨_, rfl⟩;obtain ⟨r2, hr2⟩ : ∃ x, row2 T l (ws.take i) = x := ⟨_, rfl⟩;obtain ⟨r3, hr3⟩ : ∃ x, row3 T l (ws.take i) = x := ⟨_, rfl⟩;rw [hr1] at HN1 HO8 hl1;rw [hr2] at HN2 HO9 hl2;rw [hr3] at HN3 HO10 hl3;have HGX := hI fun (W : World) (hW : Below w4.heap.size w4 W) => HG.out W (HBW.out _ (HB04.out.trans (hW.mono HB04.out.size))) x
          unfold getV noteV at HGX;have htx : textN l x = ((getN l x).getD nt0).text := rfl;rw [htx] at HN1;obtain ⟨y, hy⟩ : ∃ y, (getN l x).getD nt0 = y := ⟨_, rfl⟩;obtain ⟨bs, hbs⟩ : ∃ bs, (getN l x).isSome = bs := ⟨_, rfl⟩;rw [hy] at HGX HN1;rw [hbs] at HGX;have HD12 : Hid (∀ W, Below w4.heap.size w4 W -> W.rangeAt w.heap.size 0 [.int .i64 rid, .string name, .int .i64 len, .int .i64 day, .slice sa sn sc, .slice ta tn tc, .slice na nn nc]) := fun W hW => HD.out W (HB04.out.trans (hW.mono HB04.out.size))
          have HFX := HFZ.out x;have HGZX := HGZ.out x;have HSS0 := hI fun (W : World) (hW : Below w.heap.size w W) => HSH.out W hW x
          obtain ⟨fs, hfs⟩ : ∃ z, formsL T l x = z := ⟨_, rfl⟩;obtain ⟨gs, hgs⟩ : ∃ z, glossesL T l x = z := ⟨_, rfl⟩;rw [hfs] at HN2 HSN HSS0 HFX;rw [hgs] at HN3 HSS0 HGZX;have HZ1 := hI HFX;have HZ2 := hI HGZX;clear hc hidx hr1 hr2 hr3 hy hbs htx hfs hgs HFX HGZX hsm hbb;go_upto_region 12 with fail
          refine wp_region_toldA 9 10 7 [.int .i64 y.nid, .int .i64 y.tier, .int .i64 y.parent, .int .i64 y.at1, .int .i64 y.at2, .int .i64 y.rank, .string y.text] [ToldA.is (.agg #[.int .i64 rid, .string name, .int .i64 len, .int .i64 day, .slice sa sn sc, .slice ta tn tc, .slice na nn nc]), ToldA.is (.slice (some bd) wl c7), ToldA.is (.int .i64 (i : Int)), ToldA.is (.pointer (some (bd.add i))), ToldA.is (.int .i64 x), ToldA.is (.tuple #[.agg #[.int .i64 y.nid, .int .i64 y.tier, .int .i64 y.parent, .int .i64 y.at1, .int .i64 y.at2, .int .i64 y.rank, .string y.text], .bool bs]), ToldA.is (.tuple #[.agg #[.int .i64 y.nid, .int .i64 y.tier, .int .i64 y.parent, .int .i64 y.at1, .int .i64 y.at2, .int .i64 y.rank, .string y.text], .bool bs]), ToldA.is (.agg #[.int .i64 y.nid, .int .i64 y.tier, .int .i64 y.parent, .int .i64 y.at1, .int .i64 y.at2, .int .i64 y.rank, .string y.text]), ToldA.is (.bool bs), ToldA.new, ToldA.put, ToldA.is (.bool bs)] (by omega) (by kernel_rfl) (by kernel_rfl) rfl ?_ ?_
          · refine And.intro (fun w1 vals hB hd a1 ha1 K hK => ?_) ?_
            · clear hd
              subst ha1;simp only [putAll, Act.put, pS] at hK |-;refine gwp_none rfl ?_;refine wp_load_mid 38 (.tmp 2) rfl w.heap.size 0 rfl [.int .i64 rid, .string name, .int .i64 len, .int .i64 day, .slice sa sn sc, .slice ta tn tc, .slice na nn nc] _ (HD12.out w1 hB) Tryz.underlying38 rfl (by kernel_rfl) ?_;simp only [Act.put, pS];exact hK _ _ rfl bR
            refine And.intro (fun w1 vals hB hd a1 ha1 K hK => ?_) ?_
            · clear hd
              subst ha1;simp only [putAll, Act.put, pS] at hK |-;refine gwp_none rfl ?_;go_simp;exact hK _ _ rfl bR
            refine And.intro (fun w1 vals hB hd a1 ha1 K hK => ?_) ?_
            · clear hd
              subst ha1;simp only [putAll, Act.put, pS] at hK |-;refine gwp_none rfl ?_;go_simp;exact hK _ _ rfl bR
            refine And.intro (fun w1 vals hB hd a1 ha1 K hK => ?_) ?_
            · have e1 := tIA (hd 1 rfl) rfl
              have e2 := tIA (hd 2 rfl) rfl;clear hd;subst ha1;simp only [putAll, Act.put, pS] at hK |-;simp only [e1, e2] at hK |-;clear e1 e2;refine gwp_none rfl ?_;go_simp;exact hK _ _ rfl bR
            refine And.intro (fun w1 vals hB hd a1 ha1 K hK => ?_) ?_
            · have e3 := tIA (hd 3 rfl) rfl
              clear hd;subst ha1;simp only [putAll, Act.put, pS] at hK |-;simp only [e3] at hK |-;clear e3;refine gwp_none rfl ?_;have hc := HCX.out w1 hB;go_simp;exact hK _ _ rfl bR
            refine And.intro (fun w1 vals hB hd a1 ha1 K hK => ?_) ?_
            · have e0 := tIA (hd 0 rfl) rfl
              have e4 := tIA (hd 4 rfl) rfl;clear hd;subst ha1;simp only [putAll, Act.put, pS] at hK |-;simp only [e0, e4] at hK |-;clear e0 e4;refine gwp_none rfl ?_;go_simp;refine (HGX.out w1 hB).mono ?_;rintro e w3 ⟨rfl, hb⟩;exact hK _ _ rfl hb
            refine And.intro (fun w1 vals hB hd a1 ha1 K hK => ?_) ?_
            · have e5 := tIA (hd 5 rfl) rfl
              clear hd;subst ha1;simp only [putAll, Act.put, pS] at hK |-;simp only [e5] at hK |-;clear e5;refine gwp_none rfl ?_;go_simp;exact hK _ _ rfl bR
            refine And.intro (fun w1 vals hB hd a1 ha1 K hK => ?_) ?_
            · have e6 := tIA (hd 6 rfl) rfl
              clear hd;subst ha1;simp only [putAll, Act.put, pS] at hK |-;simp only [e6] at hK |-;clear e6;refine gwp_none rfl ?_;go_simp;exact hK _ _ rfl bR
            refine And.intro (fun w1 vals hB hd a1 ha1 K hK => ?_) ?_
            · have e6 := tIA (hd 6 rfl) rfl
              clear hd;subst ha1;simp only [putAll, Act.put, pS] at hK |-;simp only [e6] at hK |-;clear e6;refine gwp_none rfl ?_;go_simp;exact hK _ _ rfl bR
            refine And.intro (fun w1 vals hB hd a1 ha1 K hK => ?_) ?_
            · clear hd
              subst ha1;simp only [putAll, Act.put, pS] at hK |-;refine gwp_none rfl ?_;go_simp;exact hK _ _ ⟨_, rfl, hB.size, by simp, there_new w1 _ _⟩ (bR.alloc (Nat.le_refl _) _)
            refine And.intro (fun w1 vals hB hd a1 ha1 K hK => ?_) ?_
            · have e7 := tIA (hd 7 rfl) rfl
              have p9 : NewAt 7 _ (vals 9) _ := toldA_at (t := ToldA.new) (hd 9 rfl) rfl;clear hd;refine gwp_none rfl ?_;obtain ⟨bN, hvN, h0N, h1N, hth⟩ := p9;have hev1 : a1.eval (.tmp 13) = .pointer (some ⟨bN, 0, none⟩) := by rw [ha1]; exact (eval_slot (i := 9) (by kernel_rfl) (by kernel_rfl) rfl).trans hvN
              have hev2 : a1.eval (.tmp 47) = .agg #[.int .i64 y.nid, .int .i64 y.tier, .int .i64 y.parent, .int .i64 y.at1, .int .i64 y.at2, .int .i64 y.rank, .string y.text] := by rw [ha1]; exact (eval_slot (i := 7) (by kernel_rfl) (by kernel_rfl) rfl).trans e7
              clear ha1;obtain ⟨wS, hwS⟩ : ∃ wS, w1.setCells bN 0 (#[.int .i64 y.nid, .int .i64 y.tier, .int .i64 y.parent, .int .i64 y.at1, .int .i64 y.at2, .int .i64 y.rank, .string y.text] : Array Value).toList = wS := ⟨_, rfl⟩;have hX : BelowX bN w1 wS := by rw [<- hwS]; exact BelowX.set _ _ _
              have hR : wS.rangeAt bN 0 [.int .i64 y.nid, .int .i64 y.tier, .int .i64 y.parent, .int .i64 y.at1, .int .i64 y.at2, .int .i64 y.rank, .string y.text] := by rw [<- hwS]; exact World.rangeAt_setCells_same w1 bN 0 [.int .i64 y.nid, .int .i64 y.tier, .int .i64 y.parent, .int .i64 y.at1, .int .i64 y.at2, .int .i64 y.rank, .string y.text] hth
              refine wp_store_mid 58 (.tmp 13) (.tmp 47) rfl bN 0 #[.int .i64 y.nid, .int .i64 y.tier, .int .i64 y.parent, .int .i64 y.at1, .int .i64 y.at2, .int .i64 y.rank, .string y.text] hev1 hev2 hth (by kernel_rfl) (by simp [Value.oneCell']) ?_;rw [hwS];exact hK undef wS trivial ⟨by kernel_rfl, bN, hvN, h0N, h1N, hX, hR⟩
            refine And.intro (fun w1 vals hB hd a1 ha1 K hK => ?_) ?_
            · have e8 := tIA (hd 8 rfl) rfl
              clear hd;subst ha1;simp only [putAll, Act.put, pS] at hK |-;simp only [e8] at hK |-;clear e8;refine gwp_none rfl ?_;go_simp;exact hK _ _ rfl bR
            exact trivial
          · intro w1 vals hB hd hfl
            have e11 := tIA (hd 11 (by decide)) rfl;obtain ⟨bN, hvN, h0N, h1N, hrN⟩ := hfl (by decide);clear hfl;clear hd;simp only [putAll, Act.put, pS];simp only [e11, hvN];clear e11 hvN;obtain ⟨w5, hw5⟩ : ∃ w5, w1 = w5 := ⟨_, rfl⟩;rw [hw5] at hB hrN h1N |-;clear hw5;have HB5 : Hid (Below w3.heap.size w3 w5) := HB4.out.trans (hB.mono hz4);have HB05 : Hid (Below W0.heap.size W0 w5) := HB2.out.trans (HB5.out.mono HB2.out.size);have HO8a := hI (HO8.out.on hB);have HO9a := hI (HO9.out.on hB);have HO10a := hI (HO10.out.on hB);have HYN : Hid (∀ W, Below w5.heap.size w5 W -> W.cell? ⟨bN, 6, none⟩ = some (.string y.text)) := fun W hW => (hW.cell (by exact h1N)).trans (hrN 6 _ rfl)
            have HD13 : Hid (∀ W, Below w5.heap.size w5 W -> W.rangeAt w.heap.size 0 [.int .i64 rid, .string name, .int .i64 len, .int .i64 day, .slice sa sn sc, .slice ta tn tc, .slice na nn nc]) := fun W hW => HD.out W (HB05.out.trans (hW.mono HB05.out.size))
            have HCX13 : Hid (∀ W, Below w5.heap.size w5 W -> W.cell? (bd.add i) = some (.int .i64 x)) := fun W hW => HCB.out W (HB5.out.trans (hW.mono HB5.out.size))
            have HSH13 := hI fun (W : World) (hW : Below w5.heap.size w5 W) => HSS0.out W (HBW.out _ (HB05.out.trans (hW.mono HB05.out.size)))
            have hz5 := HB5.out.size;clear hB hrN h0N h1N HD12 HCX HGX HO8 HO9 HO10 HSS0;go_upto_region 13 with fail
            refine wp_region_toldV [Told.is (.agg #[.int .i64 rid, .string name, .int .i64 len, .int .i64 day, .slice sa sn sc, .slice ta tn tc, .slice na nn nc]), Told.is (.slice (some bd) wl c7), Told.is (.int .i64 (i : Int)), Told.is (.pointer (some (bd.add i))), Told.is (.int .i64 x), Told.such (fun v W => ∃ v1 v2, v = .tuple #[v1, v2] /\ OwnS W w5.heap.size v1 fs /\ OwnS W w5.heap.size v2 gs) (fun v W W' ⟨v1, v2, h0, h1, h2⟩ hb => ⟨v1, v2, h0, h1.on hb, h2.on hb⟩), Told.such (fun v W => ∃ v1 v2, v = .tuple #[v1, v2] /\ OwnS W w5.heap.size v1 fs /\ OwnS W w5.heap.size v2 gs) (fun v W W' ⟨v1, v2, h0, h1, h2⟩ hb => ⟨v1, v2, h0, h1.on hb, h2.on hb⟩), Told.such (fun v W => OwnS W w5.heap.size v fs) (fun v W W' h hb => OwnS.on h hb), Told.such (fun v W => OwnS W w5.heap.size v gs) (fun v W W' h hb => OwnS.on h hb), Told.such (fun v W => OwnS W w5.heap.size v fs) (fun v W W' h hb => OwnS.on h hb), Told.such (fun v W => OwnS W w5.heap.size v gs) (fun v W W' h hb => OwnS.on h hb)] (by kernel_rfl) (by kernel_rfl) ?_ ?_
            · refine And.intro (fun w1 vals hB hd K hK => ?_) ?_
              · clear hd
                simp only [putAll, Act.put, pS] at hK |-;refine gwp_none rfl ?_;refine wp_load_mid 38 (.tmp 2) rfl w.heap.size 0 rfl [.int .i64 rid, .string name, .int .i64 len, .int .i64 day, .slice sa sn sc, .slice ta tn tc, .slice na nn nc] _ (HD13.out w1 hB) Tryz.underlying38 rfl (by kernel_rfl) ?_;simp only [Act.put, pS];exact hK _ _ rfl bR
              refine And.intro (fun w1 vals hB hd K hK => ?_) ?_
              · clear hd
                simp only [putAll, Act.put, pS] at hK |-;refine gwp_none rfl ?_;go_simp;exact hK _ _ rfl bR
              refine And.intro (fun w1 vals hB hd K hK => ?_) ?_
              · clear hd
                simp only [putAll, Act.put, pS] at hK |-;refine gwp_none rfl ?_;go_simp;exact hK _ _ rfl bR
              refine And.intro (fun w1 vals hB hd K hK => ?_) ?_
              · have e1 := tI (hd 1 rfl) rfl
                have e2 := tI (hd 2 rfl) rfl;clear hd;simp only [putAll, Act.put, pS] at hK |-;simp only [e1, e2] at hK |-;clear e1 e2;refine gwp_none rfl ?_;go_simp;exact hK _ _ rfl bR
              refine And.intro (fun w1 vals hB hd K hK => ?_) ?_
              · have e3 := tI (hd 3 rfl) rfl
                clear hd;simp only [putAll, Act.put, pS] at hK |-;simp only [e3] at hK |-;clear e3;refine gwp_none rfl ?_;have hc := HCX13.out w1 hB;go_simp;exact hK _ _ rfl bR
              refine And.intro (fun w1 vals hB hd K hK => ?_) ?_
              · have e0 := tI (hd 0 rfl) rfl
                have e4 := tI (hd 4 rfl) rfl;clear hd;simp only [putAll, Act.put, pS] at hK |-;simp only [e0, e4] at hK |-;clear e0 e4;refine gwp_none rfl ?_;go_simp;refine (HSH13.out w1 hB).mono ?_;rintro e w4 ⟨v, u, rfl, hO1, hO2, hb4⟩;exact hK _ _ ⟨v, u, rfl, own_base hO1 hB.size, own_base hO2 hB.size⟩ hb4
              refine And.intro (fun w1 vals hB hd K hK => ?_) ?_
              · have p5 := told_at (hd 5 rfl) rfl
                simp only [Told.holds] at p5;clear hd;generalize hx5 : vals 5 = x5;rw [hx5] at p5;simp only [putAll, Act.put, pS] at hK |-;simp only [hx5] at hK |-;clear hx5;refine gwp_none rfl ?_;go_simp;exact hK _ _ p5 bR
              refine And.intro (fun w1 vals hB hd K hK => ?_) ?_
              · have p6 := told_at (hd 6 rfl) rfl
                simp only [Told.holds] at p6;clear hd;generalize hx6 : vals 6 = x6;rw [hx6] at p6;simp only [putAll, Act.put, pS] at hK |-;simp only [hx6] at hK |-;clear hx6;refine gwp_none rfl ?_;obtain ⟨v1, v2, rfl, h1, h2⟩ := p6;go_simp;exact hK _ _ h1 bR
              refine And.intro (fun w1 vals hB hd K hK => ?_) ?_
              · have p6 := told_at (hd 6 rfl) rfl
                simp only [Told.holds] at p6;clear hd;generalize hx6 : vals 6 = x6;rw [hx6] at p6;simp only [putAll, Act.put, pS] at hK |-;simp only [hx6] at hK |-;clear hx6;refine gwp_none rfl ?_;obtain ⟨v1, v2, rfl, h1, h2⟩ := p6;go_simp;exact hK _ _ h2 bR
              refine And.intro (fun w1 vals hB hd K hK => ?_) ?_
              · have p7 := told_at (hd 7 rfl) rfl
                simp only [Told.holds] at p7;clear hd;generalize hx7 : vals 7 = x7;rw [hx7] at p7;simp only [putAll, Act.put, pS] at hK |-;simp only [hx7] at hK |-;clear hx7;refine gwp_none rfl ?_;go_simp;exact hK _ _ p7 bR
              refine And.intro (fun w1 vals hB hd K hK => ?_) ?_
              · have p8 := told_at (hd 8 rfl) rfl
                simp only [Told.holds] at p8;clear hd;generalize hx8 : vals 8 = x8;rw [hx8] at p8;simp only [putAll, Act.put, pS] at hK |-;simp only [hx8] at hK |-;clear hx8;refine gwp_none rfl ?_;go_simp;exact hK _ _ p8 bR
              exact trivial
            · intro w1 vals hB hd
              have p9 := told_at (hd 9 (by decide)) rfl;simp only [Told.holds] at p9;have p10 := told_at (hd 10 (by decide)) rfl;simp only [Told.holds] at p10;obtain ⟨x9, hx9⟩ : ∃ x, vals 9 = x := ⟨_, rfl⟩;rw [hx9] at p9;obtain ⟨x10, hx10⟩ : ∃ x, vals 10 = x := ⟨_, rfl⟩;rw [hx10] at p10;clear hd;simp only [putAll, Act.put, pS];simp only [hx9, hx10];clear hx9 hx10;have HB6 : Hid (Below w3.heap.size w3 w1) := HB5.out.trans (hB.mono hz5);have hz6 := HB6.out.size;have HO8 := hI (HO8a.out.on hB);have HO9 := hI (HO9a.out.on hB);have HO10 := hI (HO10a.out.on hB);obtain ⟨vA, hvA9⟩ : ∃ z, x9 = z := ⟨_, rfl⟩;obtain ⟨vB, hvB10⟩ : ∃ z, x10 = z := ⟨_, rfl⟩;rw [hvA9] at p9 |-;rw [hvB10] at p10 |-;clear hvA9 hvB10;have HOA := hI p9;have HOB := hI p10;have HAA8 : Hid (Apart vA u8) := fun b2 hb2 he => by have h1 := (p9.lt b2 hb2).1; have h2 := (World.ownsRow.lt HO8a.out b2 he).2; omega
              have HAA9 : Hid (Apart vA u9) := fun b2 hb2 he => by have h1 := (p9.lt b2 hb2).1; have h2 := (World.ownsRow.lt HO9a.out b2 he).2; omega
              have HAB8 : Hid (Apart vB u8) := fun b2 hb2 he => by have h1 := (p10.lt b2 hb2).1; have h2 := (World.ownsRow.lt HO8a.out b2 he).2; omega
              have HAB9 : Hid (Apart vB u9) := fun b2 hb2 he => by have h1 := (p10.lt b2 hb2).1; have h2 := (World.ownsRow.lt HO9a.out b2 he).2; omega
              have HAB10 : Hid (Apart vB u10) := fun b2 hb2 he => by have h1 := (p10.lt b2 hb2).1; have h2 := (World.ownsRow.lt HO10a.out b2 he).2; omega
              have c6 := HYN.out w1 hB;obtain ⟨AL, cL, hvL, _, _, _⟩ := OwnS.form p9;subst hvL;obtain ⟨AM, cM, hvM, _, _, _⟩ := OwnS.form p10;subst hvM;obtain ⟨wq, hwq⟩ : ∃ wq, w1 = wq := ⟨_, rfl⟩;rw [hwq] at HB6 hz6 HO8 HO9 HO10 HOA HOB c6 |-;clear hwq p9 p10 hB HD13 HCX13 HSH13 HO8a HO9a HO10a HYN
              cases sm with
              | true =>
                go_wp2_with (first
                  | (at_builtin; refine wpList_app1 rfl (.tmp 64) (.tmp 67) 45 rfl w3.heap.size 9 16 (.string .empty) info_string rfl Tryz.underlying45 rfl HO8.out rfl rfl (by omega) (by omega) hz6 ?_; rintro vx8 wz1 hownX hbX hsX hkx; have HX9 := hI (hkx _ _ _ _ _ _ HO9.out HAP89.out.symm); have HX10 := hI (hkx _ _ _ _ _ _ HO10.out HAP810.out.symm); have HXA := hI (hkx _ _ _ _ _ _ HOA.out HAA8.out); have HXB := hI (hkx _ _ _ _ _ _ HOB.out HAB8.out); have hzX : w3.heap.size <= wz1.heap.size := (by omega); obtain ⟨AA, cA, hvA, hA1, hA2, hA3⟩ := OwnS.form (show OwnS wz1 w5.heap.size (.slice AL fs.length cL) fs from HXA.out.1); cases hvA; have HJ1 := hI (refJoin_any AL fs.length cL fs wz1 hA3 HZ1.out))
                  | (with_reducible refine HJ1.out.mono ?_; rintro e wz ⟨rfl, rfl⟩)
                  | (at_builtin; refine wpList_app1 rfl (.tmp 69) (.tmp 72) 45 rfl w3.heap.size 9 16 (.string .empty) info_string rfl Tryz.underlying45 rfl HX9.out.1 rfl rfl (by omega) (by omega) hzX ?_; rintro vy9 wz2 hownY hbY hsY hky; have HA8 := hI (hky _ _ _ _ _ _ hownX HX9.out.2.symm); have HY10 := hI (hky _ _ _ _ _ _ HX10.out.1 HAP910.out.symm); have HYB := hI (hky _ _ _ _ _ _ HXB.out.1 HAB9.out); have hzY : w3.heap.size <= wz2.heap.size := (by omega); obtain ⟨AB, cB, hvB, hB1, hB2, hB3⟩ := OwnS.form (show OwnS wz2 w5.heap.size (.slice AM gs.length cM) gs from HYB.out.1); cases hvB; have HJ2 := hI (refJoin_any AM gs.length cM gs wz2 hB3 HZ2.out))
                  | (with_reducible refine HJ2.out.mono ?_; rintro e wz ⟨rfl, rfl⟩)
                  | (at_builtin; refine wpList_app1 rfl (.tmp 74) (.tmp 77) 45 rfl w3.heap.size 9 16 (.string .empty) info_string rfl Tryz.underlying45 rfl HY10.out.1 rfl rfl (by omega) (by omega) hzY ?_; rintro vz10 wz3 hownZ hbZ hsZ hkz))
                have HF8 := hI (hkz _ _ _ _ _ _ HA8.out.1 HX10.out.2.symm);have HF9 := hI (hkz _ _ _ _ _ _ hownY HY10.out.2.symm);have HR8 : Hid (OwnS wz3 w3.heap.size vx8 (r1 ++ [y.text])) := own_s (n := 0) HF8.out.1;have HR9 : Hid (OwnS wz3 w3.heap.size vy9 (r2 ++ [joinD fs])) := own_s (n := 0) HF9.out.1;have HR10 : Hid (OwnS wz3 w3.heap.size vz10 (r3 ++ [joinD gs])) := own_s (n := 0) hownZ;have HBE : Hid (Below w3.heap.size w3 wz3) := ((HB6.out.trans hbX).trans hbY).trans hbZ;have HA89 := hI HA8.out.2;have HA810 := hI HF8.out.2;have HA910 := hI HF9.out.2;rw [<- HN1.out] at HR8;rw [<- HN2.out] at HR9;rw [<- HN3.out] at HR10;clear hownX hownY hownZ hbX hbY hbZ hkx hky hkz;go_wp2;go_roundw
                case rel =>
                  first
                    | exact ⟨i + 1, HLT.out, by go_num, by rw [HSN.out]; simp, HR8, HR9, HR10, HA89, HA810, HA910, HBE⟩
                    | ((repeat apply Exists.intro); refine ⟨?_, rfl⟩; exact ⟨i + 1, HLT.out, by go_num, by rw [HSN.out]; simp, HR8, HR9, HR10, HA89, HA810, HA910, HBE⟩)
                case measure => have := HLT.out; simp [intOf]; omega
              | false =>
                go_wp2_with (first
                  | (at_builtin; refine wpList_app1 rfl (.tmp 64) (.tmp 67) 45 rfl w3.heap.size 9 16 (.string .empty) info_string rfl Tryz.underlying45 rfl HO8.out rfl rfl (by omega) (by omega) hz6 ?_; rintro vx8 wz1 hownX hbX hsX hkx; have HX9 := hI (hkx _ _ _ _ _ _ HO9.out HAP89.out.symm); have HX10 := hI (hkx _ _ _ _ _ _ HO10.out HAP810.out.symm); have HXA := hI (hkx _ _ _ _ _ _ HOA.out HAA8.out); have HXB := hI (hkx _ _ _ _ _ _ HOB.out HAB8.out); have hzX : w3.heap.size <= wz1.heap.size := (by omega); obtain ⟨AA, cA, hvA, hA1, hA2, hA3⟩ := OwnS.form (show OwnS wz1 w5.heap.size (.slice AL fs.length cL) fs from HXA.out.1); cases hvA; have HJ1 := hI (refJoin_any AL fs.length cL fs wz1 hA3 HZ1.out))
                  | (with_reducible refine HJ1.out.mono ?_; rintro e wz ⟨rfl, rfl⟩)
                  | (at_builtin; refine wpList_app1 rfl (.tmp 69) (.tmp 72) 45 rfl w3.heap.size 9 16 (.string .empty) info_string rfl Tryz.underlying45 rfl HX9.out.1 rfl rfl (by omega) (by omega) hzX ?_; rintro vy9 wz2 hownY hbY hsY hky; have HA8 := hI (hky _ _ _ _ _ _ hownX HX9.out.2.symm); have HY10 := hI (hky _ _ _ _ _ _ HX10.out.1 HAP910.out.symm); have HYB := hI (hky _ _ _ _ _ _ HXB.out.1 HAB9.out); have hzY : w3.heap.size <= wz2.heap.size := (by omega); obtain ⟨AB, cB, hvB, hB1, hB2, hB3⟩ := OwnS.form (show OwnS wz2 w5.heap.size (.slice AM gs.length cM) gs from HYB.out.1); cases hvB; have HJ2 := hI (refJoin_any AM gs.length cM gs wz2 hB3 HZ2.out))
                  | (with_reducible refine HJ2.out.mono ?_; rintro e wz ⟨rfl, rfl⟩)
                  | (at_builtin; refine wpList_app1 rfl (.tmp 74) (.tmp 77) 45 rfl w3.heap.size 9 16 (.string .empty) info_string rfl Tryz.underlying45 rfl HY10.out.1 rfl rfl (by omega) (by omega) hzY ?_; rintro vz10 wz3 hownZ hbZ hsZ hkz))
                have HF8 := hI (hkz _ _ _ _ _ _ HA8.out.1 HX10.out.2.symm);have HF9 := hI (hkz _ _ _ _ _ _ hownY HY10.out.2.symm);have HR8 : Hid (OwnS wz3 w3.heap.size vx8 (r1 ++ [y.text])) := own_s (n := 0) HF8.out.1;have HR9 : Hid (OwnS wz3 w3.heap.size vy9 (r2 ++ [joinD fs])) := own_s (n := 0) HF9.out.1;have HR10 : Hid (OwnS wz3 w3.heap.size vz10 (r3 ++ [joinD gs])) := own_s (n := 0) hownZ;have HBE : Hid (Below w3.heap.size w3 wz3) := ((HB6.out.trans hbX).trans hbY).trans hbZ;have HA89 := hI HA8.out.2;have HA810 := hI HF8.out.2;have HA910 := hI HF9.out.2;rw [<- HN1.out] at HR8;rw [<- HN2.out] at HR9;rw [<- HN3.out] at HR10;clear hownX hownY hownZ hbX hbY hbZ hkx hky hkz;go_wp2;go_roundw
                case rel =>
                  first
                    | exact ⟨i + 1, HLT.out, by go_num, by rw [HSN.out]; simp, HR8, HR9, HR10, HA89, HA810, HA910, HBE⟩
                    | ((repeat apply Exists.intro); refine ⟨?_, rfl⟩; exact ⟨i + 1, HLT.out, by go_num, by rw [HSN.out]; simp, HR8, HR9, HR10, HA89, HA810, HA910, HBE⟩)
                case measure => have := HLT.out; simp [intOf]; omega
        · obtain rfl : i = wl := by omega
          have hiz : ¬ (i : Int) < (i : Int) := by omega
          rw [<- HWL.out, List.take_length] at HO8 HO9 HO10 hsm;obtain ⟨B1, d1, hv1, h1a, h1b, h1r⟩ := OwnS.form HO8.out;obtain ⟨B2, d2, hv2, h2a, h2b, h2r⟩ := OwnS.form HO9.out;obtain ⟨B3, d3, hv3, h3a, h3b, h3r⟩ := OwnS.form HO10.out;subst hv1;subst hv2;subst hv3
          have HC3 := hI (rowsC_new w4 45 [.slice B1 (row1 T l ws).length d1, .slice B2 (row2 T l ws).length d2, .slice B3 (row3 T l ws).length d3] #[.slice B1 (row1 T l ws).length d1, .slice B2 (row2 T l ws).length d2, .slice B3 (row3 T l ws).length d3] rfl [row1 T l ws, row2 T l ws, row3 T l ws] 3 rfl rfl (fun i l hil => by
            match i, hil with
            | 0, hil => cases hil; exact ⟨_, _, _, rfl, h1r, h1a, h1b⟩
            | 1, hil => cases hil; exact ⟨_, _, _, rfl, h2r, h2a, h2b⟩
            | 2, hil => cases hil; exact ⟨_, _, _, rfl, h3r, h3a, h3b⟩))
          have HC1 := hI (rowsC_new w4 45 [.slice B1 (row1 T l ws).length d1] #[.slice B1 (row1 T l ws).length d1] rfl [row1 T l ws] 1 rfl rfl (fun i l hil => by
            match i, hil with
            | 0, hil => cases hil; exact ⟨_, _, _, rfl, h1r, h1a, h1b⟩))
          have HSM := hI hsm;clear hsm h1a h1b h1r h2a h2b h2r h3a h3b h3r
          cases sm with
          | true =>
            go_wp2;go_ret;refine ⟨⟨fun h => (by cases h), fun _ => ⟨w4.heap.size, 3, 3, rfl, ?_, Nat.le_refl _, by omega⟩⟩, HBW.out _ (HB04.out.alloc HB04.out.size _)⟩;(try rw [if_pos rfl, if_neg HWS.out])
            unfold rowsW;rw [if_pos HSM.out];exact HC3.out
          | false =>
            go_wp2;go_ret;refine ⟨⟨fun h => (by cases h), fun _ => ⟨w4.heap.size, 1, 1, rfl, ?_, by omega, by omega⟩⟩, HBW.out _ (HB04.out.alloc HB04.out.size _)⟩;(try rw [if_pos rfl, if_neg HWS.out])
            unfold rowsW;rw [if_neg (by rw [HSM.out]; simp)];exact HC1.out
def RwO (L : List (List ByteArray)) (v : Value) (W : World) : Prop := ∃ A n c, v = .slice A n c /\ RowsC W W.heap.size A n L /\ n <= 9223372036854775807
theorem RwO.on {L : List (List ByteArray)} {v : Value} {W W' : World} (h : RwO L v W) (hb : Below W.heap.size W W') : RwO L v W' := by
 obtain ⟨A, n, c, e, hr, hn⟩ := h;exact ⟨A, n, c, e, hr.on hb, hn⟩
theorem RwO.of {T : List Ti} {l : List Nt} {id : Int} {K : Nat} {e : Ending} {W : World} (h : RowsV (getN l id).isSome (rowsL T l id K) e W) : ∃ v, e = .returned v /\ RwO (rowsL T l id K) v W := by
 cases hb : (getN l id).isSome with
 | false =>
  have h0 : rowsL T l id K = [] := by unfold rowsL; rw [hb]; rfl
  rw [h0];exact ⟨_, h.1 hb, none, 0, 0, rfl, RowsC.none_ _ _, by omega⟩
 | true =>
  obtain ⟨g, n, c, e1, h1, h2, h3⟩ := h.2 hb;exact ⟨_, e1, _, _, _, rfl, h1, by omega⟩
def FewR (r : List ByteArray) : Prop := r.length <= 12 /\ ∀ s ∈ r, s.size <= 60
def Few (L : List (List ByteArray)) : Prop := L.length <= 20 /\ ∀ r ∈ L, FewR r
def FewPost (L : List (List ByteArray)) (w : World) (e : Ending) (w' : World) : Prop := ∃ b, e = .returned (.bool b) /\ (b = true ↔ Few L) /\ w = w'
theorem FewPost.no {L : List (List ByteArray)} {w : World} (h : ¬ Few L) : FewPost L w (.returned (.bool false)) w := ⟨false, rfl, ⟨fun h => (by cases h), fun h2 => absurd h2 h⟩, rfl⟩
def PartI (W : World) (base : Nat) (v : Value) (P : List (List ByteArray)) : Prop :=
 ∃ us : List Value, W.ownsRow base 45 1 v P.length us /\ us.length = P.length /\ ∀ (j : Nat) (u : Value) (r : List ByteArray), us[j]? = some u -> P[j]? = some r -> OwnS W base u r /\ Apart u v
theorem PartI.nil (W : World) (base : Nat) : PartI W base (.slice none 0 0) [] := ⟨[], World.ownsRow_nil _ _ _ _, rfl, fun j u r h => by simp at h⟩
theorem PartI.on {W W' : World} {base : Nat} {v : Value} {P : List (List ByteArray)} (h : PartI W base v P) (hb : Below W.heap.size W W') : PartI W' base v P := by
 obtain ⟨us, h1, h2, h3⟩ := h;exact ⟨us, own_below h1 hb, h2, fun j u r hu hr => ⟨(h3 j u r hu hr).1.on hb, (h3 j u r hu hr).2⟩⟩
theorem PartI.rows {W : World} {base : Nat} {v : Value} {P : List (List ByteArray)} (h : PartI W base v P) : ∃ A c, v = .slice A P.length c /\ RowsC W W.heap.size A P.length P := by
 obtain ⟨us, h1, h2, h3⟩ := h;obtain ⟨A, c, rfl, _, _, hr⟩ := own_form h1;refine ⟨A, c, rfl, us, hr, rfl, fun i l hl => ?_⟩;have hlt := (List.getElem?_eq_some_iff.1 hl).1;have hu : us[i]? = some (us[i]'(by omega)) := List.getElem?_eq_getElem (by omega);obtain ⟨A', c', e, h4, h5, hs⟩ := (h3 i _ l hu hl).1.form;exact ⟨A', l.length, c', by rw [hu, e], hs, h4, h5⟩
theorem PartI.add {W W' : World} {base b2 : Nat} {v v' u : Value} {P : List (List ByteArray)} {us : List Value} {r : List ByteArray}
  (h1 : W'.ownsRow base 45 1 v' (P.length + 1) (us ++ [u])) (h2 : us.length = P.length) (h3 : ∀ (j : Nat) (u : Value) (r : List ByteArray), us[j]? = some u -> P[j]? = some r -> OwnS W base u r /\ Apart u v)
  (hu : OwnS W b2 u r) (hb : base <= b2) (hv : ∀ b, v.ownBlock = some b -> b < b2)
  (hk : ∀ (base2 e2 size2 : Nat) (u : Value) (m : Nat) (ys : List Value), W.ownsRow base2 e2 size2 u m ys -> Apart u v -> W'.ownsRow base2 e2 size2 u m ys /\ Apart u v') : PartI W' base v' (P ++ [r]) := by
 refine ⟨us ++ [u], by rw [List.length_append]; exact h1, by rw [List.length_append, List.length_append, h2]; rfl, fun j t q ht hq => ?_⟩;by_cases hlt : j < P.length
 ·rw [List.getElem?_append_left (by omega)] at ht;rw [List.getElem?_append_left hlt] at hq;obtain ⟨h4, h5⟩ := h3 j t q ht hq;exact hk _ _ _ _ _ _ h4 h5
 ·rw [List.getElem?_append_right (by omega), h2] at ht;rw [List.getElem?_append_right (by omega)] at hq
  have hj : j - P.length = 0 := by
   have := (List.getElem?_eq_some_iff.1 hq).1;simp at this
   omega
  rw [hj] at ht hq;simp at ht hq
  subst ht hq
  obtain ⟨h4, h5⟩ := hk _ _ _ _ _ _ (own_base hu hb) (fun b hb1 hb2 => by
   have := (World.ownsRow.lt hu b hb1).1;have := hv b hb2;omega)
  exact ⟨h4, h5⟩
theorem partR_len (L : List (List ByteArray)) (g : Nat × Nat) : (partR L g).length = L.length := by unfold partR; simp
theorem partR_sz {L : List (List ByteArray)} (h : SzL L) (g : Nat × Nat) (hg : g.2 <= 100000) : SzL (partR L g) := by
 refine ⟨by rw [partR_len]; exact h.1, fun r hr => ?_⟩;obtain ⟨x, hx, rfl⟩ := List.mem_map.1 hr;refine ⟨by simp; omega, fun s hs => ?_⟩;obtain ⟨j, _, rfl⟩ := List.mem_map.1 hs;exact (h.2 x hx).cellB _
def rowR (r : List ByteArray) (f q : Nat) : List ByteArray := (List.range q).map fun j => cellB r (f + j)
theorem rowR_succ (r : List ByteArray) (f q : Nat) : rowR r f (q + 1) = rowR r f q ++ [cellB r (f + q)] := by
 unfold rowR;rw [List.range_succ, List.map_append];rfl
theorem rowR_len (r : List ByteArray) (f q : Nat) : (rowR r f q).length = q := by unfold rowR; simp
theorem partR_take {L : List (List ByteArray)} {k : Nat} {r : List ByteArray} (g : Nat × Nat) (h : L[k]? = some r) : (partR L g).take (k + 1) = (partR L g).take k ++ [rowR r g.1 (g.2 - g.1)] := by
 refine take_atG ?_;unfold partR;rw [List.getElem?_map, h];rfl
theorem PartI.lt {W : World} {base : Nat} {v : Value} {P : List (List ByteArray)} (h : PartI W base v P) : ∀ b, v.ownBlock = some b -> b < W.heap.size := by
 obtain ⟨us, h1, _⟩ := h;exact fun b hb => (h1.lt b hb).2
set_option maxHeartbeats 8000000 in
set_option maxRecDepth 100000 in
theorem refWrap_any (A : Option Addr) (n c : Nat) (L : List (List ByteArray)) (WD : Int) (w : World) (hL : RowsC w w.heap.size A n L) (hz : SzL L) (hW : WD <= 9223372036854775807) :
  Calls Tryz.prog 46 #[.slice A n c, .int .i64 WD] w fun e w' => ∃ v, e = .returned v /\ OwnS w' w.heap.size v (wrapL L WD) /\ Below w.heap.size w w' := by
 rw [wrapL_ref];have HL := hI hL;have HZ := hI hz;have HLN := hI hL.len;have hn : n <= 100000 := by have := hL.len; have := hz.1; omega
 have HCO := hI (refColumns_any A n c L w hL hz);have hnm := hz.nmax
 have HCM : Hid (∀ x ∈ cols L, x <= 9223372036854775807) := fun x hx => by
  obtain ⟨k, _, rfl⟩ := List.mem_map.1 hx;have := hz.col k;omega
 clear hL hz;go_enter Tryz.func46, Tryz.ntmps46
 go_wp2_with fail
 refine HCO.out.mono ?_;rintro e w1 ⟨v, rfl, hown, hb⟩;obtain ⟨CA, cc, rfl, _, _, hir⟩ := hown.form;have HB1 := hI hb;have HGR := hI (refGroups_any CA (cols L).length cc (cols L) WD w1 hir (by rw [cols_len]; exact hnm) HCM.out hW);clear hir hb hown HCO;go_wp2_with fail
 refine HGR.out.mono ?_;rintro e w2 ⟨v, rfl, hown, hb⟩;have hgl := groups_len (cols L) WD;rw [cols_len] at hgl;obtain ⟨GA, gc, rfl, hgr⟩ := hown.form;obtain ⟨G, hG⟩ : ∃ G, groups (cols L) WD = G := ⟨_, rfl⟩;have HG := hI hG;rw [hG] at hgr hgl |-;obtain ⟨ng, hng⟩ : ∃ ng, G.length = ng := ⟨_, rfl⟩;have HNG := hI hng;rw [hng] at hgr hgl |-;have HR := hI hgr;have HB2 : Hid (Below w.heap.size w w2) := HB1.out.trans (hb.mono HB1.out.size);have hng2 : ng <= 100000 := by omega
 clear hgr hb hown HGR hG hng;go_wp2_with fail
 go_loopw [5, 7] (fun v5 v7 wr => ∃ i : Nat, i <= ng /\ v7 = .int .i64 i /\ Hid (OwnS wr w2.heap.size v5 (wrapG (fun g => alignL (partR L g)) G i)) /\ Hid (Below w2.heap.size w2 wr)) (fun _ v7 _ => ng - (intOf v7).toNat)
 case atStart => exact ⟨0, Nat.zero_le _, rfl, OwnS.nil _ _, Below.refl _ _⟩
 case round =>
  obtain ⟨i, hi, rfl, HO, HBR⟩ := hrel;obtain ⟨w0, hw0⟩ : ∃ w0, wr = w0 := ⟨_, rfl⟩;rw [hw0] at HO HBR |-;clear hw0;by_cases hlt : i < ng
  ·have hiz : (i : Int) < (ng : Int) := by omega
   have hiA : (0 : Int) <= (i : Int) := by omega
   obtain ⟨gd, p, rfl, hgb, hp, hc0, hc1⟩ := HR.out.at_ hlt;obtain ⟨f, e⟩ := p;have HG0 : Hid (∀ W, Below w2.heap.size w2 W -> W.cell? (gd.add (i * 2)) = some (.int .i64 (f : Int))) := fun W hW => (hW.cell (by rw [block_of_add]; exact hgb)).trans hc0
   have HG1 : Hid (∀ W, Below w2.heap.size w2 W -> W.cell? ⟨(gd.add (i * 2)).block, (gd.add (i * 2)).off + 1, none⟩ = some (.int .i64 (e : Int))) := fun W hW => (hW.cell (p := ⟨(gd.add (i * 2)).block, (gd.add (i * 2)).off + 1, none⟩) (by show (gd.add (i * 2)).block < _; rw [block_of_add]; exact hgb)).trans hc1
   have HP := hI hp
   obtain ⟨hfe, hel⟩ : f < e /\ e <= 100000 := by
    have h1 := (groups_ok (cols L) WD).each i f e (by rw [HG.out]; exact hp);have h2 := h1.2.1;rw [cols_len] at h2;exact ⟨h1.1, by omega⟩
   have HI := hI hlt;have hwl := wrapG_le (f := fun g => alignL (partR L g)) (G := G) (m := n) (fun g => by rw [alignL_len, partR_len, HLN.out]) i;have hwl2 : i * (n + 1) <= 100000 * 100001 := Nat.mul_le_mul (by omega) (by omega);obtain ⟨OL, hOL⟩ : ∃ OL, wrapG (fun g => alignL (partR L g)) G i = OL := ⟨_, rfl⟩;have hwl3 : OL.length <= 10000100000 := by rw [<- hOL]; omega
   have hGi : G.getD i (0, 0) = (f, e) := getD_at HP.out;have hsz0 := HBR.out.size;rw [hOL] at HO;clear hc0 hc1 hp hwl hwl2;by_cases hi0 : 0 < i
   ·have hi0z : (0 : Int) < (i : Int) := by omega
    have HWN : Hid (wrapG (fun g => alignL (partR L g)) G (i + 1) = (OL ++ [⟨#[]⟩]) ++ alignL (partR L (f, e))) := by
     show wrapG (fun g => alignL (partR L g)) G i ++ (if 0 < i then [(⟨#[]⟩ : ByteArray)] else []) ++ alignL (partR L (G.getD i (0, 0))) = _;rw [if_pos hi0, hGi, hOL]
    clear hOL hGi;go_wp2_with (at_builtin; refine wpList_app1 rfl (.tmp 24) (.tmp 25) 45 rfl w2.heap.size 9 16 (.string .empty) info_string rfl Tryz.underlying45 rfl HO.out rfl rfl (by omega) (by omega) hsz0 ?_; intro v3 w3 hown3 hb3 hs3 hk3)
    have HO3 := hI (own_s (n := 0) hown3);have HB3 : Hid (Below w2.heap.size w2 w3) := HBR.out.trans hb3;have hol : (OL ++ [(⟨#[]⟩ : ByteArray)]).length <= 10000100001 := by rw [List.length_append, List.length_singleton]; omega
    clear hown3 hb3 hs3 hk3 HO;go_wp2_with fail
    go_loopw [8, 9] (fun v8 v9 wi => ∃ k : Nat, k <= n /\ v9 = .int .i64 k /\ Hid (PartI wi w3.heap.size v8 ((partR L (f, e)).take k)) /\ Hid (Below w3.heap.size w3 wi)) (fun _ v9 _ => n - (intOf v9).toNat)
    case atStart => exact ⟨0, Nat.zero_le _, rfl, (by rw [List.take_zero]; exact PartI.nil _ _), Below.refl _ _⟩
    case round =>
     obtain ⟨k, hk, rfl, HPA, HBI⟩ := hrel;obtain ⟨wk, hwk⟩ : ∃ wk, wk = wr := ⟨_, rfl⟩;rw [<- hwk] at HPA HBI |-;clear hwk;have HBK : Hid (Below w2.heap.size w2 wk) := HB3.out.trans (HBI.out.mono HB3.out.size);by_cases hkl : k < n
     ·have hkz : (k : Int) < (n : Int) := by omega
      have hkA : (0 : Int) <= (k : Int) := by omega
      obtain ⟨ad, r, RA, rn, rc, rfl, hadb, hr, hcr, hsr, hrc1, hrc2⟩ := HL.out.at_ hkl;have HCR : Hid (∀ W, Below w2.heap.size w2 W -> W.cell? (ad.add k) = some (.slice RA rn rc)) := fun W hW => ((HB2.out.trans (hW.mono HB2.out.size)).cell (by rw [block_of_add]; exact hadb)).trans hcr
      have hrn : rn <= 100000 := by have := hsr.len; have := (HZ.out.row hr).1; omega
      have HSR := hI hsr;have HNX : Hid ((partR L (f, e)).take (k + 1) = (partR L (f, e)).take k ++ [rowR r f (e - f)]) := partR_take (f, e) hr;have HSZ := hI (HZ.out.row hr);have hpl : ((partR L (f, e)).take k).length = k := by rw [List.length_take, partR_len, HLN.out]; omega
      have HPL := hI hpl;have HKL := hI hkl;have hg0 := HG0.out _ HBK.out;clear hr hcr hsr hpl;go_wp2_with fail
      have HPA0 := HPA;go_loopw [10, 11] (fun v10 v11 wj => ∃ q : Nat, f + q <= e /\ v11 = .int .i64 ((f + q : Nat) : Int) /\ Hid (OwnS wj wk.heap.size v10 (rowR r f q)) /\ Hid (Below wk.heap.size wk wj)) (fun _ v11 _ => e - (intOf v11).toNat)
      case atStart => exact ⟨0, by omega, by rw [Nat.add_zero], OwnS.nil _ _, Below.refl _ _⟩
      case round =>
       obtain ⟨q, hq, rfl, HRW, HBJ⟩ := hrel;obtain ⟨wj, hwj⟩ : ∃ wj, wj = wr := ⟨_, rfl⟩;rw [<- hwj] at HRW HBJ |-;clear hwj;have HBJ2 : Hid (Below w2.heap.size w2 wj) := HBK.out.trans (HBJ.out.mono HBK.out.size);have hg1 := HG1.out _ HBJ2.out;have hcr1 := HCR.out _ HBJ2.out;obtain ⟨j, hj⟩ : ∃ j, f + q = j := ⟨_, rfl⟩;have HJ := hI hj;rw [hj] at hq |-;clear hj;by_cases hjl : j < e
       ·have hjz : (j : Int) < (e : Int) := by omega
        have HCE := hI (cell_any RA rn rc r j wj (SR.on HSR.out (HB2.out.trans (HBJ2.out.mono HB2.out.size))) (by omega) (by omega));have hrl := rowR_len r f q;have HRN : Hid (rowR r f (q + 1) = rowR r f q ++ [cellB r j]) := by show _ = _; rw [rowR_succ, HJ.out]
        obtain ⟨R, hR⟩ : ∃ R, rowR r f q = R := ⟨_, rfl⟩;have hRl : R.length <= e := by rw [<- hR, hrl]; have := HJ.out; omega
        rw [hR] at HRW HRN;have hszj := HBJ.out.size;clear hrl hR;go_wp2_with fail
        refine HCE.out.mono ?_;rintro e5 w5 ⟨rfl, rfl⟩;go_wp2_with (at_builtin; refine wpList_app1 rfl (.tmp 47) (.tmp 54) 45 rfl wk.heap.size 9 16 (.string .empty) info_string rfl Tryz.underlying45 rfl HRW.out rfl rfl (by omega) (by omega) hszj ?_; intro v6 w6 hown6 hb6 hs6 hk6)
        have hrw6 := own_s (n := 0) hown6;rw [<- HRN.out] at hrw6;have HRW6 := hI hrw6;have HB6 : Hid (Below wk.heap.size wk w6) := HBJ.out.trans hb6;clear hown6 hb6 hs6 hk6 hrw6 hg1 hcr1;go_wp2;go_roundw
        case rel => exact ⟨q + 1, by have := HJ.out; omega, by rw [show f + (q + 1) = j + 1 by have := HJ.out; omega]; go_num, HRW6, HB6⟩
        case measure => simp [intOf]; omega
       ·obtain rfl : j = e := by omega
        have hjz : ¬ (j : Int) < (j : Int) := by omega
        have h0 := HRW.out;rw [show q = j - f by have := HJ.out; omega] at h0;obtain ⟨us, hx1, hx2, hx3⟩ := HPA0.out.on HBJ.out;obtain ⟨VA, vc, hvf, hv1, hv2, _⟩ := h0.form;subst hvf;have HRW5 := hI h0;rw [HPL.out] at hx1;have HX1 := hI hx1;have HX2 := hI hx2;have HX3 := hI hx3;have hap : ∀ b, Value.ownBlock _ = some b -> b < wk.heap.size := fun b hb => (HPA0.out.lt b hb)
        have HAP := hI hap;have hszj : w3.heap.size <= wj.heap.size := Nat.le_trans HBI.out.size HBJ.out.size;clear hx1 hx2 hx3 h0 hap hcr1;go_wp2_with (at_builtin; refine wpList_app1 rfl (.tmp 56) (.tmp 58) 41 rfl w3.heap.size 45 24 (.slice none 0 0) info_strings rfl Tryz.underlying41 rfl HX1.out rfl rfl (by omega) (by omega) hszj ?_; intro v7 w7 hown7 hb7 hs7 hk7)
        rw [<- HPL.out] at hown7;have hpa7 := PartI.add hown7 HX2.out HX3.out HRW5.out HBI.out.size HAP.out hk7;rw [<- HNX.out] at hpa7;have HPA7 := hI hpa7;have HB7 : Hid (Below w3.heap.size w3 w7) := (HBI.out.trans (HBJ.out.mono HBI.out.size)).trans hb7;have hk1 : k + 1 <= n := HKL.out;clear hown7 hb7 hs7 hk7 hpa7 hg1;go_wp2;go_roundw
        case rel => exact ⟨k + 1, hk1, by go_num, HPA7, HB7⟩
        case measure => have := HKL.out; simp [intOf]; omega
     ·obtain rfl : n = k := by omega
      have hkz : ¬ (n : Int) < (n : Int) := by omega
      have h0 := HPA.out;rw [List.take_of_length_le (by rw [partR_len, HLN.out]; exact Nat.le_refl _)] at h0;obtain ⟨PA, pc, hpv, hrows⟩ := h0.rows;rw [partR_len, HLN.out] at hrows hpv;subst hpv;have HAL := hI (refAlign_any PA n pc (partR L (f, e)) wk hrows (partR_sz HZ.out (f, e) (by show e <= _; omega)));have HO7 := hI (HO3.out.on HBI.out);clear h0 hrows;go_wp2_with fail
      refine HAL.out.mono ?_;rintro e8 w8 ⟨v8, rfl, hown8, hb8⟩;obtain ⟨A8, c8, rfl, h81, h82, hr8⟩ := hown8.form;rw [alignL_len, partR_len, HLN.out] at hr8 |-;have HR8 := hI hr8;have HO8 := hI (HO7.out.on hb8);have HB8 : Hid (Below w2.heap.size w2 w8) := HBK.out.trans (hb8.mono HBK.out.size);have hsz8 := HB8.out.size;clear hown8 hb8 hr8 h81 h82;go_wp2_with (at_builtin; refine wpList_app rfl (.tmp 60) (.tmp 62) 45 rfl w2.heap.size 9 16 (.string .empty) info_string rfl Tryz.underlying45 rfl HO8.out rfl HR8.out (by simp [Value.oneCell']) (by omega) (by omega) hsz8 ?_; intro v9 w9 hown hg hat)
      have HO9 : Hid (OwnS w9 w2.heap.size v9 (wrapG (fun g => alignL (partR L g)) G (i + 1))) := by
       show World.ownsRow _ _ _ _ _ _ _;rw [HWN.out, List.length_append, alignL_len, partR_len, HLN.out, List.map_append];exact hown
      have HB9 : Hid (Below w2.heap.size w2 w9) := HB8.out.grown hg hsz8 (fun k hk => (HO8.out.lt k hk).1);clear hown hg hat;have hi1 : i + 1 <= ng := HI.out;go_wp2;go_roundw
      case rel => exact ⟨i + 1, hi1, by go_num, HO9, HB9⟩
      case measure => have := HI.out; simp [intOf]; omega
   ·have hi0z : ¬ (0 : Int) < (i : Int) := by omega
    have HI0 : Hid (i = 0) := by show _ = _; omega
    have HWN : Hid (wrapG (fun g => alignL (partR L g)) G (i + 1) = OL ++ alignL (partR L (f, e))) := by
     show wrapG (fun g => alignL (partR L g)) G i ++ (if 0 < i then [(⟨#[]⟩ : ByteArray)] else []) ++ alignL (partR L (G.getD i (0, 0))) = _;rw [if_neg hi0, hGi, hOL, List.append_nil]
    have HO3 := HO;have HB3 := HBR;have hol : OL.length <= 10000100001 := by omega
    clear hOL hGi HO hi0;go_wp2_with fail
    go_loopw [8, 9] (fun v8 v9 wi => ∃ k : Nat, k <= n /\ v9 = .int .i64 k /\ Hid (PartI wi w0.heap.size v8 ((partR L (f, e)).take k)) /\ Hid (Below w0.heap.size w0 wi)) (fun _ v9 _ => n - (intOf v9).toNat)
    case atStart => exact ⟨0, Nat.zero_le _, rfl, (by rw [List.take_zero]; exact PartI.nil _ _), Below.refl _ _⟩
    case round =>
     obtain ⟨k, hk, rfl, HPA, HBI⟩ := hrel;obtain ⟨wk, hwk⟩ : ∃ wk, wk = wr := ⟨_, rfl⟩;rw [<- hwk] at HPA HBI |-;clear hwk;have HBK : Hid (Below w2.heap.size w2 wk) := HB3.out.trans (HBI.out.mono HB3.out.size);by_cases hkl : k < n
     ·have hkz : (k : Int) < (n : Int) := by omega
      have hkA : (0 : Int) <= (k : Int) := by omega
      obtain ⟨ad, r, RA, rn, rc, rfl, hadb, hr, hcr, hsr, hrc1, hrc2⟩ := HL.out.at_ hkl;have HCR : Hid (∀ W, Below w2.heap.size w2 W -> W.cell? (ad.add k) = some (.slice RA rn rc)) := fun W hW => ((HB2.out.trans (hW.mono HB2.out.size)).cell (by rw [block_of_add]; exact hadb)).trans hcr
      have hrn : rn <= 100000 := by have := hsr.len; have := (HZ.out.row hr).1; omega
      have HSR := hI hsr;have HNX : Hid ((partR L (f, e)).take (k + 1) = (partR L (f, e)).take k ++ [rowR r f (e - f)]) := partR_take (f, e) hr;have HSZ := hI (HZ.out.row hr);have hpl : ((partR L (f, e)).take k).length = k := by rw [List.length_take, partR_len, HLN.out]; omega
      have HPL := hI hpl;have HKL := hI hkl;have hg0 := HG0.out _ HBK.out;clear hr hcr hsr hpl;go_wp2_with fail
      have HPA0 := HPA;go_loopw [10, 11] (fun v10 v11 wj => ∃ q : Nat, f + q <= e /\ v11 = .int .i64 ((f + q : Nat) : Int) /\ Hid (OwnS wj wk.heap.size v10 (rowR r f q)) /\ Hid (Below wk.heap.size wk wj)) (fun _ v11 _ => e - (intOf v11).toNat)
      case atStart => exact ⟨0, by omega, by rw [Nat.add_zero], OwnS.nil _ _, Below.refl _ _⟩
      case round =>
       obtain ⟨q, hq, rfl, HRW, HBJ⟩ := hrel;obtain ⟨wj, hwj⟩ : ∃ wj, wj = wr := ⟨_, rfl⟩;rw [<- hwj] at HRW HBJ |-;clear hwj;have HBJ2 : Hid (Below w2.heap.size w2 wj) := HBK.out.trans (HBJ.out.mono HBK.out.size);have hg1 := HG1.out _ HBJ2.out;have hcr1 := HCR.out _ HBJ2.out;obtain ⟨j, hj⟩ : ∃ j, f + q = j := ⟨_, rfl⟩;have HJ := hI hj;rw [hj] at hq |-;clear hj;by_cases hjl : j < e
       ·have hjz : (j : Int) < (e : Int) := by omega
        have HCE := hI (cell_any RA rn rc r j wj (SR.on HSR.out (HB2.out.trans (HBJ2.out.mono HB2.out.size))) (by omega) (by omega));have hrl := rowR_len r f q;have HRN : Hid (rowR r f (q + 1) = rowR r f q ++ [cellB r j]) := by show _ = _; rw [rowR_succ, HJ.out]
        obtain ⟨R, hR⟩ : ∃ R, rowR r f q = R := ⟨_, rfl⟩;have hRl : R.length <= e := by rw [<- hR, hrl]; have := HJ.out; omega
        rw [hR] at HRW HRN;have hszj := HBJ.out.size;clear hrl hR;go_wp2_with fail
        refine HCE.out.mono ?_;rintro e5 w5 ⟨rfl, rfl⟩;go_wp2_with (at_builtin; refine wpList_app1 rfl (.tmp 47) (.tmp 54) 45 rfl wk.heap.size 9 16 (.string .empty) info_string rfl Tryz.underlying45 rfl HRW.out rfl rfl (by omega) (by omega) hszj ?_; intro v6 w6 hown6 hb6 hs6 hk6)
        have hrw6 := own_s (n := 0) hown6;rw [<- HRN.out] at hrw6;have HRW6 := hI hrw6;have HB6 : Hid (Below wk.heap.size wk w6) := HBJ.out.trans hb6;clear hown6 hb6 hs6 hk6 hrw6 hg1 hcr1;go_wp2;go_roundw
        case rel => exact ⟨q + 1, by have := HJ.out; omega, by rw [show f + (q + 1) = j + 1 by have := HJ.out; omega]; go_num, HRW6, HB6⟩
        case measure => simp [intOf]; omega
       ·obtain rfl : j = e := by omega
        have hjz : ¬ (j : Int) < (j : Int) := by omega
        have h0 := HRW.out;rw [show q = j - f by have := HJ.out; omega] at h0;obtain ⟨us, hx1, hx2, hx3⟩ := HPA0.out.on HBJ.out;obtain ⟨VA, vc, hvf, hv1, hv2, _⟩ := h0.form;subst hvf;have HRW5 := hI h0;rw [HPL.out] at hx1;have HX1 := hI hx1;have HX2 := hI hx2;have HX3 := hI hx3;have hap : ∀ b, Value.ownBlock _ = some b -> b < wk.heap.size := fun b hb => (HPA0.out.lt b hb)
        have HAP := hI hap;have hszj : w0.heap.size <= wj.heap.size := Nat.le_trans HBI.out.size HBJ.out.size;clear hx1 hx2 hx3 h0 hap hcr1;go_wp2_with (at_builtin; refine wpList_app1 rfl (.tmp 56) (.tmp 58) 41 rfl w0.heap.size 45 24 (.slice none 0 0) info_strings rfl Tryz.underlying41 rfl HX1.out rfl rfl (by omega) (by omega) hszj ?_; intro v7 w7 hown7 hb7 hs7 hk7)
        rw [<- HPL.out] at hown7;have hpa7 := PartI.add hown7 HX2.out HX3.out HRW5.out HBI.out.size HAP.out hk7;rw [<- HNX.out] at hpa7;have HPA7 := hI hpa7;have HB7 : Hid (Below w0.heap.size w0 w7) := (HBI.out.trans (HBJ.out.mono HBI.out.size)).trans hb7;have hk1 : k + 1 <= n := HKL.out;clear hown7 hb7 hs7 hk7 hpa7 hg1;go_wp2;go_roundw
        case rel => exact ⟨k + 1, hk1, by go_num, HPA7, HB7⟩
        case measure => have := HKL.out; simp [intOf]; omega
     ·obtain rfl : n = k := by omega
      have hkz : ¬ (n : Int) < (n : Int) := by omega
      have h0 := HPA.out;rw [List.take_of_length_le (by rw [partR_len, HLN.out]; exact Nat.le_refl _)] at h0;obtain ⟨PA, pc, hpv, hrows⟩ := h0.rows;rw [partR_len, HLN.out] at hrows hpv;subst hpv;have HAL := hI (refAlign_any PA n pc (partR L (f, e)) wk hrows (partR_sz HZ.out (f, e) (by show e <= _; omega)));have HO7 := hI (HO3.out.on HBI.out);clear h0 hrows;go_wp2_with fail
      refine HAL.out.mono ?_;rintro e8 w8 ⟨v8, rfl, hown8, hb8⟩;obtain ⟨A8, c8, rfl, h81, h82, hr8⟩ := hown8.form;rw [alignL_len, partR_len, HLN.out] at hr8 |-;have HR8 := hI hr8;have HO8 := hI (HO7.out.on hb8);have HB8 : Hid (Below w2.heap.size w2 w8) := HBK.out.trans (hb8.mono HBK.out.size);have hsz8 := HB8.out.size;clear hown8 hb8 hr8 h81 h82;go_wp2_with (at_builtin; refine wpList_app rfl (.tmp 60) (.tmp 62) 45 rfl w2.heap.size 9 16 (.string .empty) info_string rfl Tryz.underlying45 rfl HO8.out rfl HR8.out (by simp [Value.oneCell']) (by omega) (by omega) hsz8 ?_; intro v9 w9 hown hg hat)
      have HO9 : Hid (OwnS w9 w2.heap.size v9 (wrapG (fun g => alignL (partR L g)) G (i + 1))) := by
       show World.ownsRow _ _ _ _ _ _ _;rw [HWN.out, List.length_append, alignL_len, partR_len, HLN.out, List.map_append];exact hown
      have HB9 : Hid (Below w2.heap.size w2 w9) := HB8.out.grown hg hsz8 (fun k hk => (HO8.out.lt k hk).1);clear hown hg hat;have hi1 : i + 1 <= ng := HI.out;go_wp2;go_roundw
      case rel => exact ⟨i + 1, hi1, by go_num, HO9, HB9⟩
      case measure => have := HI.out; simp [intOf]; omega
  ·obtain rfl : ng = i := by omega
   have hiz : ¬ (ng : Int) < (ng : Int) := by omega
   have h0 := HO.out;rw [show wrapG (fun g => alignL (partR L g)) G ng = wrapG (fun g => alignL (partR L g)) (groups (cols L) WD) (groups (cols L) WD).length by rw [HG.out, HNG.out]] at h0;have HO5 := hI h0;clear h0;go_wp2;go_ret;exact ⟨_, rfl, own_base HO5.out HB2.out.size, HB2.out.trans (HBR.out.mono HB2.out.size)⟩
end
end Go.Proofs.YthcabnfcgjnlnaaGreatDoor
