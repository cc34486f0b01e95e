import Derived.Test.YthcabnfcgjnlnaaGreatDoorB08
set_option linter.unusedVariables false
set_option linter.unusedSimpArgs false
namespace Go.Proofs.YthcabnfcgjnlnaaGreatDoor
section
open Go.RowKit Ru Lay
attribute [local go_sem ↓] Go.wp_at_zero Go.wp_at_succ
set_option maxHeartbeats 2000000 in
set_option maxRecDepth 100000 in
theorem readyP_any (d : Dv) (T : List Ti) (w : World) (hT : TiersR w w.heap.size d.ta d.tn T) (htn : d.tn <= 1000000) :
  Calls Tryz.prog 60 #[docV d] w fun e w' => e = .returned (.bool (readyB T)) /\ Below w.heap.size w w' := by
 have HF := hI fun (W : World) (hW : Below w.heap.size w W) => find_any d T W (hT.on hW) htn
 clear hT;unfold docV at HF;unfold docV;obtain ⟨rid, name, len, day, sa, sn, sc, ta, tn, tc, na, nn, nc⟩ := d;simp only at HF htn |-;obtain ⟨W0, hW0, hz0, hB0, hK0⟩ := doc_cells w rid name len day sa ta na sn sc tn tc nn nc;have HB := hI hB0;have HK := hI hK0;clear hB0 hK0;unfold readyB;obtain ⟨a2, h2⟩ : ∃ a, roleT T 2 = a := ⟨_, rfl⟩;obtain ⟨a3, h3⟩ : ∃ a, roleT T 3 = a := ⟨_, rfl⟩;obtain ⟨a4, h4⟩ : ∃ a, roleT T 4 = a := ⟨_, rfl⟩;rw [h2, h3, h4] at HF;rw [h2, h3, h4];clear h2 h3 h4;obtain ⟨k0, k1, k2, k3, k4, k5, k6⟩ := range7 (HK.out W0 (Below.refl _ _));have HFF := hI (HF.out W0 HB.out);go_enter Tryz.func60, Tryz.ntmps60
 go_upto_region 1 with fail
 (try rw [hW0])
 clear hW0;go_wp2_with fail
 refine HFF.out.mono ?_;rintro e w1 ⟨rfl, hb1⟩;have HB1 : Hid (Below W0.heap.size W0 (w1.alloc (.cells #[.int .i64 a2, .int .i64 a3, .int .i64 a4] 91))) := hb1.alloc hb1.size _;clear hb1 k0 k1 k2 k3 k4 k5 k6 HFF HF;by_cases g2 : 0 <= a2
 ·have c2' : decide (0 <= a2) = true := decide_eq_true g2;clear g2;by_cases g3 : 0 <= a3
  ·have c3' : decide (0 <= a3) = true := decide_eq_true g3;clear g3;go_wp2;go_ret;exact ⟨by simp [c2', c3'], HB.out.trans (HB1.out.mono HB.out.size)⟩
  ·have c3' : decide (0 <= a3) = false := decide_eq_false g3;clear g3;go_wp2;go_ret;exact ⟨by simp [c2', c3'], HB.out.trans (HB1.out.mono HB.out.size)⟩
 ·have c2' : decide (0 <= a2) = false := decide_eq_false g2;clear g2;go_wp2;go_ret;exact ⟨by simp [c2'], HB.out.trans (HB1.out.mono HB.out.size)⟩
set_option maxHeartbeats 4000000 in
set_option maxRecDepth 100000 in
theorem wordP_any (d : Dv) (T : List Ti) (l : List Nt) (id : Int) (w : World) (hT : TiersR w w.heap.size d.ta d.tn T) (hl : NotesR w w.heap.size d.na d.nn l) (hn : d.nn <= 9223372036854775807) (htn : d.tn <= 1000000) :
  Calls Tryz.prog 59 #[docV d, .int .i64 id] w fun e w' => e = .returned (.tuple #[noteV ((getN l id).getD nt0), .bool (wordB T l id)]) /\ Below w.heap.size w w' := by
 have HF := hI fun (W : World) (hW : Below w.heap.size w W) => find_any d T W (hT.on hW) htn
 have HG := hI fun (W : World) (hW : Below w.heap.size w W) => get_any d l id W (hl.on hW) hn
 clear hT hl;unfold docV at HF HG;unfold docV;obtain ⟨rid, name, len, day, sa, sn, sc, ta, tn, tc, na, nn, nc⟩ := d;simp only at HF HG htn hn |-;unfold wordB noteV;unfold getV noteV at HG;obtain ⟨y, hy⟩ : ∃ y, (getN l id).getD nt0 = y := ⟨_, rfl⟩;obtain ⟨bs, hbs⟩ : ∃ bs, (getN l id).isSome = bs := ⟨_, rfl⟩;obtain ⟨a2, h2⟩ : ∃ a, roleT T 2 = a := ⟨_, rfl⟩;obtain ⟨a3, h3⟩ : ∃ a, roleT T 3 = a := ⟨_, rfl⟩;obtain ⟨a4, h4⟩ : ∃ a, roleT T 4 = a := ⟨_, rfl⟩;rw [h2, h3, h4] at HF;rw [hy, hbs] at HG;rw [hy, hbs, h2];clear h2 h3 h4 hy hbs;go_enter Tryz.func59, Tryz.ntmps59
 go_upto_region 1 with fail
 obtain ⟨p, hp⟩ : ∃ p, w.heap.size = p := ⟨_, rfl⟩;obtain ⟨W0, hW0⟩ : ∃ W0, ((w.alloc (.cells #[.int .i64 rid, .string name, .int .i64 len, .int .i64 day, .slice sa sn sc, .slice ta tn tc, .slice na nn nc] 38)).alloc (.cells #[.int .i64 0, .int .i64 0, .int .i64 0, .int .i64 0, .int .i64 0, .int .i64 0, .string ⟨#[]⟩] 58)) = W0 := ⟨_, rfl⟩;have hz0 : W0.heap.size = p + 1 + 1 := by rw [<- hW0, <- hp]; simp
 have HB : Hid (Below w.heap.size w W0) := by rw [<- hW0]; exact ((Below.refl _ w).alloc (Nat.le_refl _) _).alloc (by simp) _
 have HTH0 : Hid (W0.there (p + 1) 0 7) := by
  have h := there_new (w.alloc (.cells #[.int .i64 rid, .string name, .int .i64 len, .int .i64 day, .slice sa sn sc, .slice ta tn tc, .slice na nn nc] 38)) #[.int .i64 0, .int .i64 0, .int .i64 0, .int .i64 0, .int .i64 0, .int .i64 0, .string ⟨#[]⟩] 58;rw [hW0] at h;show W0.there _ _ _;rw [<- hp];simpa using h
 have HD0 : Hid (∀ W, Below W0.heap.size W0 W -> W.rangeAt p 0 [.int .i64 rid, .string name, .int .i64 len, .int .i64 day, .slice sa sn sc, .slice ta tn tc, .slice na nn nc]) := fun W hW => by
  refine range_below hW (by omega) ?_;intro j v hv;rw [<- hW0, World.cell?_alloc_lt _ _ _ (by rw [<- hp]; simp), <- hp, Nat.zero_add, World.cell?_alloc_new w _ _ j, <- hv, <- List.getElem?_toArray]
 have HGG := hI (HG.out W0 HB.out);rw [hW0];rw [hp] at HB HF;simp only [hp];clear hW0 HG;have hk := HD0.out W0 bR;obtain ⟨k0, k1, k2, k3, k4, k5, k6⟩ := range7 hk;clear hk;go_wp2_with fail
 refine HGG.out.mono ?_;rintro e wg ⟨rfl, hbg⟩;obtain ⟨b, hb⟩ : ∃ b, wg.heap.size = b := ⟨_, rfl⟩;obtain ⟨WA, hWA⟩ : ∃ WA, wg.alloc (.cells #[.int .i64 y.nid, .int .i64 y.tier, .int .i64 y.parent, .int .i64 y.at1, .int .i64 y.at2, .int .i64 y.rank, .string y.text] 58) = WA := ⟨_, rfl⟩;have hszg := hbg.size;have hzA : WA.heap.size = b + 1 := by rw [<- hWA, <- hb]; simp
 have HBA : Hid (Below W0.heap.size W0 WA) := by rw [<- hWA]; exact hbg.alloc hbg.size _
 have HTX : Hid (WA.there (p + 1) 0 7) := there_below HBA.out (by omega) HTH0.out
 have HD : Hid (∀ W, BelowX (p + 1) WA W -> W.rangeAt p 0 [.int .i64 rid, .string name, .int .i64 len, .int .i64 day, .slice sa sn sc, .slice ta tn tc, .slice na nn nc]) := fun W hW j v hv => by
  rw [hW.cell (p := ⟨p, 0 + j, none⟩) (by show p < _; omega) (by show p ≠ p + 1; omega)];exact HD0.out WA HBA.out j v hv
 have HNT : Hid (∀ W, BelowX (p + 1) WA W -> W.rangeAt b 0 [.int .i64 y.nid, .int .i64 y.tier, .int .i64 y.parent, .int .i64 y.at1, .int .i64 y.at2, .int .i64 y.rank, .string y.text]) := fun W hW j v hv => by
  rw [hW.cell (p := ⟨b, 0 + j, none⟩) (by show b < _; omega) (by show b ≠ p + 1; omega), <- hWA, <- hb, Nat.zero_add, World.cell?_alloc_new wg _ _ j, <- hv, <- List.getElem?_toArray]
 have HWB : Hid (Below p w WA) := HB.out.trans (HBA.out.mono (by omega));have HFX : Hid (∀ W, BelowX (p + 1) WA W -> Calls Tryz.prog 61 #[.agg #[.int .i64 rid, .string name, .int .i64 len, .int .i64 day, .slice sa sn sc, .slice ta tn tc, .slice na nn nc]] W fun e w' => e = .returned (.agg #[.int .i64 a2, .int .i64 a3, .int .i64 a4]) /\ Below W.heap.size W w') := fun W hW => HF.out W (HWB.out.trans (hW.below (by omega) (by omega)))
 have hbp : p + 2 <= b := by omega
 clear k0 k1 k2 k3 k4 k5 k6 HGG hbg hszg HF HD0 HTH0;go_upto_region 2 with fail
 (try rw [hWA])
 (try rw [hb])
 clear hWA hb
 cases bs with
 | true =>
  refine wp_region_toldW (q := (p + 1)) 10 [ToldX.is (.agg #[.int .i64 y.nid, .int .i64 y.tier, .int .i64 y.parent, .int .i64 y.at1, .int .i64 y.at2, .int .i64 y.rank, .string y.text]), ToldX.is (.bool true), ToldX.is (.bool true), ToldX.is (.pointer (some ⟨b, 1, none⟩)), ToldX.is (.int .i64 y.tier), ToldX.is (.agg #[.int .i64 rid, .string name, .int .i64 len, .int .i64 day, .slice sa sn sc, .slice ta tn tc, .slice na nn nc]), ToldX.is (.agg #[.int .i64 a2, .int .i64 a3, .int .i64 a4]), ToldX.is (.int .i64 a2), ToldX.is (.bool (y.tier == a2)), ToldX.is (.bool (y.tier == a2)), ToldX.put (fun w => (p + 1) < w.heap.size /\ w.rangeAt (p + 1) 0 [.int .i64 y.nid, .int .i64 y.tier, .int .i64 y.parent, .int .i64 y.at1, .int .i64 y.at2, .int .i64 y.rank, .string y.text]) (fun w w' ⟨h0, h1⟩ hb => ⟨Nat.lt_of_lt_of_le h0 hb.size, range_below hb h0 h1⟩), ToldX.is (.bool (y.tier == a2))] (by kernel_rfl) (by kernel_rfl) rfl ?_ ?_
  ·refine And.intro (fun w1 vals hB hd a1 ha1 K hK => ?_) ?_
   ·clear hd;subst ha1;simp only [putAll, Act.put, pS] at hK |-;refine gwp_none rfl ?_;refine wp_load_mid 58 (.tmp 6) rfl b 0 rfl [.int .i64 y.nid, .int .i64 y.tier, .int .i64 y.parent, .int .i64 y.at1, .int .i64 y.at2, .int .i64 y.rank, .string y.text] _ (HNT.out w1 hB) Tryz.underlying58 rfl (by kernel_rfl) ?_;simp only [Act.put, pS];exact hK _ _ rfl (.inl bR)
   refine And.intro (fun w1 vals hB hd a1 ha1 K hK => ?_) ?_
   ·clear hd;subst ha1;simp only [putAll, Act.put, pS] at hK |-;refine gwp_none rfl ?_;go_simp;exact hK _ _ rfl (.inl bR)
   refine And.intro (fun w1 vals hB hd a1 ha1 K hK => ?_) ?_
   ·have e1 := tIX (hd 1 rfl) rfl;clear hd;subst ha1;simp only [putAll, Act.put, pS] at hK |-;simp only [e1] at hK |-;clear e1;refine gwp_none rfl ?_;go_simp;exact hK _ _ rfl (.inl bR)
   refine And.intro (fun w1 vals hB hd a1 ha1 K hK => ?_) ?_
   ·have g2 := tIX (hd 2 rfl) rfl;clear hd;subst ha1;simp only [putAll, Act.put, pS] at hK |-;refine gwp_some rfl g2 ?_;clear g2;go_simp;exact hK _ _ rfl (.inl bR)
   refine And.intro (fun w1 vals hB hd a1 ha1 K hK => ?_) ?_
   ·have e3 := tIX (hd 3 rfl) rfl;have g2 := tIX (hd 2 rfl) rfl;clear hd;subst ha1;simp only [putAll, Act.put, pS] at hK |-;simp only [e3] at hK |-;clear e3;refine gwp_some rfl g2 ?_;clear g2;have c1 : w1.cell? ⟨b, 1, none⟩ = some (.int .i64 y.tier) := HNT.out w1 hB 1 _ rfl;go_simp;exact hK _ _ rfl (.inl bR)
   refine And.intro (fun w1 vals hB hd a1 ha1 K hK => ?_) ?_
   ·have g2 := tIX (hd 2 rfl) rfl;clear hd;subst ha1;simp only [putAll, Act.put, pS] at hK |-;refine gwp_some rfl g2 ?_;clear g2;refine wp_load_mid 38 (.tmp 2) rfl p 0 rfl [.int .i64 rid, .string name, .int .i64 len, .int .i64 day, .slice sa sn sc, .slice ta tn tc, .slice na nn nc] _ (HD.out w1 hB) Tryz.underlying38 rfl (by kernel_rfl) ?_;simp only [Act.put, pS];exact hK _ _ rfl (.inl bR)
   refine And.intro (fun w1 vals hB hd a1 ha1 K hK => ?_) ?_
   ·have e5 := tIX (hd 5 rfl) rfl;have g2 := tIX (hd 2 rfl) rfl;clear hd;subst ha1;simp only [putAll, Act.put, pS] at hK |-;simp only [e5] at hK |-;clear e5;refine gwp_some rfl g2 ?_;clear g2;go_simp;refine (HFX.out w1 hB).mono ?_;rintro e w4 ⟨rfl, hb4⟩;exact hK _ _ rfl (.inl hb4)
   refine And.intro (fun w1 vals hB hd a1 ha1 K hK => ?_) ?_
   ·have e6 := tIX (hd 6 rfl) rfl;have g2 := tIX (hd 2 rfl) rfl;clear hd;subst ha1;simp only [putAll, Act.put, pS] at hK |-;simp only [e6] at hK |-;clear e6;refine gwp_some rfl g2 ?_;clear g2;go_simp;exact hK _ _ rfl (.inl bR)
   refine And.intro (fun w1 vals hB hd a1 ha1 K hK => ?_) ?_
   ·have e4 := tIX (hd 4 rfl) rfl;have e7 := tIX (hd 7 rfl) rfl;have g2 := tIX (hd 2 rfl) rfl;clear hd;subst ha1;simp only [putAll, Act.put, pS] at hK |-;simp only [e4, e7] at hK |-;clear e4 e7;refine gwp_some rfl g2 ?_;clear g2;go_simp;exact hK _ _ rfl (.inl bR)
   refine And.intro (fun w1 vals hB hd a1 ha1 K hK => ?_) ?_
   ·have e2 := tIX (hd 2 rfl) rfl;have e8 := tIX (hd 8 rfl) rfl;clear hd;subst ha1;simp only [putAll, Act.put, pS] at hK |-;simp only [e2, e8] at hK |-;clear e2 e8;refine gwp_none rfl ?_;go_simp;exact hK _ _ rfl (.inl bR)
   refine And.intro (fun w1 vals hB hd a1 ha1 K hK => ?_) ?_
   ·have e0 := tIX (hd 0 rfl) rfl;clear hd;refine gwp_none rfl ?_;have hth := hB.keep 7 HTX.out;have hev1 : a1.eval (.tmp 4) = .pointer (some ⟨p + 1, 0, none⟩) := by rw [ha1]; exact (eval_old (by kernel_rfl)).trans rfl
    have hev2 : a1.eval (.tmp 14) = .agg #[.int .i64 y.nid, .int .i64 y.tier, .int .i64 y.parent, .int .i64 y.at1, .int .i64 y.at2, .int .i64 y.rank, .string y.text] := by rw [ha1]; exact (eval_slot (i := 0) (by kernel_rfl) (by kernel_rfl) rfl).trans e0
    clear ha1;obtain ⟨wS, hwS⟩ : ∃ wS, w1.setCells (p + 1) 0 (#[.int .i64 y.nid, .int .i64 y.tier, .int .i64 y.parent, .int .i64 y.at1, .int .i64 y.at2, .int .i64 y.rank, .string y.text] : Array Value).toList = wS := ⟨_, rfl⟩;have hX : BelowX (p + 1) w1 wS := by rw [<- hwS]; exact BelowX.set _ _ _
    have hR : wS.rangeAt (p + 1) 0 [.int .i64 y.nid, .int .i64 y.tier, .int .i64 y.parent, .int .i64 y.at1, .int .i64 y.at2, .int .i64 y.rank, .string y.text] := by rw [<- hwS]; exact World.rangeAt_setCells_same w1 (p + 1) 0 [.int .i64 y.nid, .int .i64 y.tier, .int .i64 y.parent, .int .i64 y.at1, .int .i64 y.at2, .int .i64 y.rank, .string y.text] hth
    have hSz : p + 1 < wS.heap.size := Nat.lt_of_lt_of_le (there_lt hth (by omega)) hX.size;refine wp_store_mid 58 (.tmp 4) (.tmp 14) rfl (p + 1) 0 #[.int .i64 y.nid, .int .i64 y.tier, .int .i64 y.parent, .int .i64 y.at1, .int .i64 y.at2, .int .i64 y.rank, .string y.text] hev1 hev2 hth (by kernel_rfl) (by simp [Value.oneCell']) ?_;rw [hwS];exact hK undef wS ⟨hSz, hR⟩ (.inr ⟨rfl, hX⟩)
   refine And.intro (fun w1 vals hB hd a1 ha1 K hK => ?_) ?_
   ·have e9 := tIX (hd 9 rfl) rfl;clear hd;subst ha1;simp only [putAll, Act.put, pS] at hK |-;simp only [e9] at hK |-;clear e9;refine gwp_none rfl ?_;go_simp;exact hK _ _ rfl (.inl bR)
   exact trivial
  ·intro w1 vals hB hd;have p10 := toldX_at (hd 10 (by decide)) rfl;simp only [ToldX.holds] at p10;have e11 := tIX (hd 11 (by decide)) rfl;clear hd;simp only [putAll, Act.put, pS];simp only [e11];clear e11;obtain ⟨h0, h1⟩ := p10;have H1 := hI h1;have HBE : Hid (Below p w w1) := HWB.out.trans (hB.below (by omega) (by omega));clear h0 h1;go_wp2;refine bodyPost_ret (v := .tuple #[.agg #[.int .i64 y.nid, .int .i64 y.tier, .int .i64 y.parent, .int .i64 y.at1, .int .i64 y.at2, .int .i64 y.rank, .string y.text], .bool (y.tier == a2)]) ?_ rfl ?_
   ·exact results_cell_of rfl _ _ (p + 1) [.int .i64 y.nid, .int .i64 y.tier, .int .i64 y.parent, .int .i64 y.at1, .int .i64 y.at2, .int .i64 y.rank, .string y.text] _ _ rfl rfl H1.out Tryz.underlying58 rfl (by kernel_rfl)
   ·exact ⟨by simp, by rw [hp]; exact HBE.out⟩
 | false =>
  refine wp_region_toldW (q := (p + 1)) 10 [ToldX.is (.agg #[.int .i64 y.nid, .int .i64 y.tier, .int .i64 y.parent, .int .i64 y.at1, .int .i64 y.at2, .int .i64 y.rank, .string y.text]), ToldX.is (.bool false), ToldX.is (.bool false), ToldX.is (undef), ToldX.is (undef), ToldX.is (undef), ToldX.is (undef), ToldX.is (undef), ToldX.is (undef), ToldX.is (.bool false), ToldX.put (fun w => (p + 1) < w.heap.size /\ w.rangeAt (p + 1) 0 [.int .i64 y.nid, .int .i64 y.tier, .int .i64 y.parent, .int .i64 y.at1, .int .i64 y.at2, .int .i64 y.rank, .string y.text]) (fun w w' ⟨h0, h1⟩ hb => ⟨Nat.lt_of_lt_of_le h0 hb.size, range_below hb h0 h1⟩), ToldX.is (.bool false)] (by kernel_rfl) (by kernel_rfl) rfl ?_ ?_
  ·refine And.intro (fun w1 vals hB hd a1 ha1 K hK => ?_) ?_
   ·clear hd;subst ha1;simp only [putAll, Act.put, pS] at hK |-;refine gwp_none rfl ?_;refine wp_load_mid 58 (.tmp 6) rfl b 0 rfl [.int .i64 y.nid, .int .i64 y.tier, .int .i64 y.parent, .int .i64 y.at1, .int .i64 y.at2, .int .i64 y.rank, .string y.text] _ (HNT.out w1 hB) Tryz.underlying58 rfl (by kernel_rfl) ?_;simp only [Act.put, pS];exact hK _ _ rfl (.inl bR)
   refine And.intro (fun w1 vals hB hd a1 ha1 K hK => ?_) ?_
   ·clear hd;subst ha1;simp only [putAll, Act.put, pS] at hK |-;refine gwp_none rfl ?_;go_simp;exact hK _ _ rfl (.inl bR)
   refine And.intro (fun w1 vals hB hd a1 ha1 K hK => ?_) ?_
   ·have e1 := tIX (hd 1 rfl) rfl;clear hd;subst ha1;simp only [putAll, Act.put, pS] at hK |-;simp only [e1] at hK |-;clear e1;refine gwp_none rfl ?_;go_simp;exact hK _ _ rfl (.inl bR)
   refine And.intro (fun w1 vals hB hd a1 ha1 K hK => ?_) ?_
   ·have g2 := tIX (hd 2 rfl) rfl;clear hd;subst ha1;simp only [putAll, Act.put, pS] at hK |-;refine gwp_skip rfl g2 ?_;simp only [Act.put, pS];exact hK _ _ rfl (.inl bR)
   refine And.intro (fun w1 vals hB hd a1 ha1 K hK => ?_) ?_
   ·have e3 := tIX (hd 3 rfl) rfl;have g2 := tIX (hd 2 rfl) rfl;clear hd;subst ha1;simp only [putAll, Act.put, pS] at hK |-;simp only [e3] at hK |-;clear e3;refine gwp_skip rfl g2 ?_;simp only [Act.put, pS];exact hK _ _ rfl (.inl bR)
   refine And.intro (fun w1 vals hB hd a1 ha1 K hK => ?_) ?_
   ·have g2 := tIX (hd 2 rfl) rfl;clear hd;subst ha1;simp only [putAll, Act.put, pS] at hK |-;refine gwp_skip rfl g2 ?_;simp only [Act.put, pS];exact hK _ _ rfl (.inl bR)
   refine And.intro (fun w1 vals hB hd a1 ha1 K hK => ?_) ?_
   ·have e5 := tIX (hd 5 rfl) rfl;have g2 := tIX (hd 2 rfl) rfl;clear hd;subst ha1;simp only [putAll, Act.put, pS] at hK |-;simp only [e5] at hK |-;clear e5;refine gwp_skip rfl g2 ?_;simp only [Act.put, pS];exact hK _ _ rfl (.inl bR)
   refine And.intro (fun w1 vals hB hd a1 ha1 K hK => ?_) ?_
   ·have e6 := tIX (hd 6 rfl) rfl;have g2 := tIX (hd 2 rfl) rfl;clear hd;subst ha1;simp only [putAll, Act.put, pS] at hK |-;simp only [e6] at hK |-;clear e6;refine gwp_skip rfl g2 ?_;simp only [Act.put, pS];exact hK _ _ rfl (.inl bR)
   refine And.intro (fun w1 vals hB hd a1 ha1 K hK => ?_) ?_
   ·have e4 := tIX (hd 4 rfl) rfl;have e7 := tIX (hd 7 rfl) rfl;have g2 := tIX (hd 2 rfl) rfl;clear hd;subst ha1;simp only [putAll, Act.put, pS] at hK |-;simp only [e4, e7] at hK |-;clear e4 e7;refine gwp_skip rfl g2 ?_;simp only [Act.put, pS];exact hK _ _ rfl (.inl bR)
   refine And.intro (fun w1 vals hB hd a1 ha1 K hK => ?_) ?_
   ·have e2 := tIX (hd 2 rfl) rfl;have e8 := tIX (hd 8 rfl) rfl;clear hd;subst ha1;simp only [putAll, Act.put, pS] at hK |-;simp only [e2, e8] at hK |-;clear e2 e8;refine gwp_none rfl ?_;go_simp;exact hK _ _ rfl (.inl bR)
   refine And.intro (fun w1 vals hB hd a1 ha1 K hK => ?_) ?_
   ·have e0 := tIX (hd 0 rfl) rfl;clear hd;refine gwp_none rfl ?_;have hth := hB.keep 7 HTX.out;have hev1 : a1.eval (.tmp 4) = .pointer (some ⟨p + 1, 0, none⟩) := by rw [ha1]; exact (eval_old (by kernel_rfl)).trans rfl
    have hev2 : a1.eval (.tmp 14) = .agg #[.int .i64 y.nid, .int .i64 y.tier, .int .i64 y.parent, .int .i64 y.at1, .int .i64 y.at2, .int .i64 y.rank, .string y.text] := by rw [ha1]; exact (eval_slot (i := 0) (by kernel_rfl) (by kernel_rfl) rfl).trans e0
    clear ha1;obtain ⟨wS, hwS⟩ : ∃ wS, w1.setCells (p + 1) 0 (#[.int .i64 y.nid, .int .i64 y.tier, .int .i64 y.parent, .int .i64 y.at1, .int .i64 y.at2, .int .i64 y.rank, .string y.text] : Array Value).toList = wS := ⟨_, rfl⟩;have hX : BelowX (p + 1) w1 wS := by rw [<- hwS]; exact BelowX.set _ _ _
    have hR : wS.rangeAt (p + 1) 0 [.int .i64 y.nid, .int .i64 y.tier, .int .i64 y.parent, .int .i64 y.at1, .int .i64 y.at2, .int .i64 y.rank, .string y.text] := by rw [<- hwS]; exact World.rangeAt_setCells_same w1 (p + 1) 0 [.int .i64 y.nid, .int .i64 y.tier, .int .i64 y.parent, .int .i64 y.at1, .int .i64 y.at2, .int .i64 y.rank, .string y.text] hth
    have hSz : p + 1 < wS.heap.size := Nat.lt_of_lt_of_le (there_lt hth (by omega)) hX.size;refine wp_store_mid 58 (.tmp 4) (.tmp 14) rfl (p + 1) 0 #[.int .i64 y.nid, .int .i64 y.tier, .int .i64 y.parent, .int .i64 y.at1, .int .i64 y.at2, .int .i64 y.rank, .string y.text] hev1 hev2 hth (by kernel_rfl) (by simp [Value.oneCell']) ?_;rw [hwS];exact hK undef wS ⟨hSz, hR⟩ (.inr ⟨rfl, hX⟩)
   refine And.intro (fun w1 vals hB hd a1 ha1 K hK => ?_) ?_
   ·have e9 := tIX (hd 9 rfl) rfl;clear hd;subst ha1;simp only [putAll, Act.put, pS] at hK |-;simp only [e9] at hK |-;clear e9;refine gwp_none rfl ?_;go_simp;exact hK _ _ rfl (.inl bR)
   exact trivial
  ·intro w1 vals hB hd;have p10 := toldX_at (hd 10 (by decide)) rfl;simp only [ToldX.holds] at p10;have e11 := tIX (hd 11 (by decide)) rfl;clear hd;simp only [putAll, Act.put, pS];simp only [e11];clear e11;obtain ⟨h0, h1⟩ := p10;have H1 := hI h1;have HBE : Hid (Below p w w1) := HWB.out.trans (hB.below (by omega) (by omega));clear h0 h1;go_wp2;refine bodyPost_ret (v := .tuple #[.agg #[.int .i64 y.nid, .int .i64 y.tier, .int .i64 y.parent, .int .i64 y.at1, .int .i64 y.at2, .int .i64 y.rank, .string y.text], .bool false]) ?_ rfl ?_
   ·exact results_cell_of rfl _ _ (p + 1) [.int .i64 y.nid, .int .i64 y.tier, .int .i64 y.parent, .int .i64 y.at1, .int .i64 y.at2, .int .i64 y.rank, .string y.text] _ _ rfl rfl H1.out Tryz.underlying58 rfl (by kernel_rfl)
   ·exact ⟨by simp, by rw [hp]; exact HBE.out⟩
set_option maxHeartbeats 8000000 in
set_option maxRecDepth 100000 in
theorem shown_any (d : Dv) (T : List Ti) (l : List Nt) (id : Int) (w : World) (hT : TiersR w w.heap.size d.ta d.tn T) (hl : NotesR w w.heap.size d.na d.nn l) (hn : d.nn < 20) (htn : d.tn <= 1000000) :
  Calls Tryz.prog 38 #[docV d, .int .i64 id] w fun e w' => ∃ v u, e = .returned (.tuple #[v, u]) /\ OwnS w' w.heap.size v (formsL T l id) /\ OwnS w' w.heap.size u (glossesL T l id) /\ Below w.heap.size w w' := by
 have hTl := hT.len;have hNl := hl.len;have HW := hI fun (W : World) (hW : Below w.heap.size w W) => wordP_any d T l id W (hT.on hW) (hl.on hW) (by omega) htn
 have HRD := hI fun (W : World) (hW : Below w.heap.size w W) => readyP_any d T W (hT.on hW) htn
 have HF := hI fun (W : World) (hW : Below w.heap.size w W) => find_any d T W (hT.on hW) htn
 have HG := hI fun (W : World) (hW : Below w.heap.size w W) (i : Int) => get_any d l i W (hl.on hW) (by omega)
 have HKD := hI fun (W : World) (hW : Below w.heap.size w W) (i t : Int) => kids_any d l i t W (hl.on hW) hn (by omega)
 have hkl : ∀ i t, (kidsL d.tn l i t).length <= 20 := fun i t => by have := kidsL_len (tn := d.tn) (l := l) (id := i) (tier := t); omega
 clear hT hl hNl
 have hF1 : (wordB T l id && readyB T) = true -> formsL T l id = (kidsL T.length l id (roleT T 3)).map (textN l) /\ glossesL T l id = (kidsL T.length l id (roleT T 3)).map (glossT T l) := fun h => by
  unfold formsL glossesL shownB;rw [if_pos h, if_pos h];exact ⟨rfl, rfl⟩
 have hF0 : (wordB T l id && readyB T) = false -> formsL T l id = [] /\ glossesL T l id = [] := fun h => by
  unfold formsL glossesL shownB;rw [h];exact ⟨rfl, rfl⟩
 have hGT : ∀ m, glossT T l m = (kidsL T.length l m (roleT T 4)).foldl (fun _ k => textN l k) ⟨#[]⟩ := fun _ => rfl
 rw [hTl] at hF1 hGT;unfold docV at HW HRD HF HG HKD;unfold docV;obtain ⟨rid, name, len, day, sa, sn, sc, ta, tn, tc, na, nn, nc⟩ := d;simp only at HW HRD HF HG HKD hn htn hkl hF1 hGT hTl |-;obtain ⟨fm, hfm⟩ : ∃ x, formsL T l id = x := ⟨_, rfl⟩;obtain ⟨gm, hgm⟩ : ∃ x, glossesL T l id = x := ⟨_, rfl⟩;obtain ⟨a2, h2⟩ : ∃ a, roleT T 2 = a := ⟨_, rfl⟩;obtain ⟨a3, h3⟩ : ∃ a, roleT T 3 = a := ⟨_, rfl⟩;obtain ⟨a4, h4⟩ : ∃ a, roleT T 4 = a := ⟨_, rfl⟩;obtain ⟨bw, hbw⟩ : ∃ a, wordB T l id = a := ⟨_, rfl⟩;obtain ⟨br, hbr⟩ : ∃ a, readyB T = a := ⟨_, rfl⟩;obtain ⟨gl, hgl⟩ : ∃ x : Int -> ByteArray, glossT T l = x := ⟨_, rfl⟩;obtain ⟨tx, htx⟩ : ∃ x : Int -> ByteArray, textN l = x := ⟨_, rfl⟩;obtain ⟨yw, hyw⟩ : ∃ y, (getN l id).getD nt0 = y := ⟨_, rfl⟩;rw [hbw] at HW;rw [hyw] at HW;unfold noteV at HW;rw [hbr] at HRD;rw [h2, h3, h4] at HF;rw [hfm, hgm, hbw, hbr] at hF1 hF0;rw [h3, hgl, htx] at hF1;rw [hgl, h4, htx] at hGT;rw [hfm, hgm];obtain ⟨ks, hks⟩ : ∃ x, kidsL tn l id a3 = x := ⟨_, rfl⟩;have hkn := hkl id a3;rw [hks] at hF1 hkn;have HF1 := hI hF1;have HF0 := hI hF0;have HGT := hI hGT;have HTX : Hid (∀ i, tx i = ((getN l i).getD nt0).text) := fun i => by rw [<- htx]; rfl
 have HKL := hI hkl;have HKS := hI hks;clear h2 h3 h4 hbw hbr hgl htx hyw hfm hgm hF1 hF0 hGT hkl hks hTl;obtain ⟨W0, hW0, hz0, hB0, hK0⟩ := doc_cells w rid name len day sa ta na sn sc tn tc nn nc;have HB := hI hB0;have HK := hI hK0;have HBW : Hid (∀ W, Below W0.heap.size W0 W -> Below w.heap.size w W) := fun W hW => HB.out.trans (hW.mono HB.out.size)
 clear hB0 hK0;have HWW := hI (HW.out W0 HB.out);go_enter Tryz.func38, Tryz.ntmps38
 go_upto_region 1 with fail
 (try rw [hW0])
 clear hW0 HW;obtain ⟨k0, k1, k2, k3, k4, k5, k6⟩ := range7 (HK.out W0 (Below.refl _ _));go_wp2_with fail
 refine HWW.out.mono ?_;rintro e w1 ⟨rfl, hb1⟩;obtain ⟨W1, hW1⟩ : ∃ W1, w1.alloc (.cells #[.int .i64 yw.nid, .int .i64 yw.tier, .int .i64 yw.parent, .int .i64 yw.at1, .int .i64 yw.at2, .int .i64 yw.rank, .string yw.text] 58) = W1 := ⟨_, rfl⟩;have HB1 : Hid (Below W0.heap.size W0 W1) := by rw [<- hW1]; exact hb1.alloc hb1.size _
 clear hb1 k0 k1 k2 k3 k4 k5 k6 HWW;go_upto_region 2 with fail
 (try rw [hW1])
 clear hW1
 cases bw with
 | false =>
  go_wp2;go_ret2;exact ⟨_, _, rfl, by rw [(HF0.out rfl).1]; exact OwnS.nil _ _, by rw [(HF0.out rfl).2]; exact OwnS.nil _ _, HBW.out _ HB1.out⟩
 | true =>
  obtain ⟨k0, k1, k2, k3, k4, k5, k6⟩ := range7 (HK.out W1 HB1.out);have HRR := hI (HRD.out W1 (HBW.out _ HB1.out));go_wp2_with fail
  refine HRR.out.mono ?_;rintro e w2 ⟨rfl, hb2⟩;have HB2 := hI (HB1.out.trans (hb2.mono HB1.out.size));clear hb2 k0 k1 k2 k3 k4 k5 k6 HRR HRD
  cases br with
  | false =>
   go_wp2;go_ret2;exact ⟨_, _, rfl, by rw [(HF0.out rfl).1]; exact OwnS.nil _ _, by rw [(HF0.out rfl).2]; exact OwnS.nil _ _, HBW.out _ HB2.out⟩
  | true =>
   obtain ⟨k0, k1, k2, k3, k4, k5, k6⟩ := range7 (HK.out w2 HB2.out);have HFF := hI (HF.out w2 (HBW.out _ HB2.out));go_wp2_with fail
   refine HFF.out.mono ?_;rintro e w3 ⟨rfl, hb3⟩;obtain ⟨pb, hpb⟩ : ∃ pb, w3.heap.size = pb := ⟨_, rfl⟩;obtain ⟨W3, hW3⟩ : ∃ W3, w3.alloc (.cells #[.int .i64 a2, .int .i64 a3, .int .i64 a4] 91) = W3 := ⟨_, rfl⟩;have hz3 : W3.heap.size = pb + 1 := by rw [<- hW3, <- hpb]; simp
   have HB3 : Hid (Below W0.heap.size W0 W3) := by rw [<- hW3]; exact (HB2.out.trans (hb3.mono HB2.out.size)).alloc (HB2.out.trans (hb3.mono HB2.out.size)).size _
   have HPC : Hid (∀ W, Below W3.heap.size W3 W -> W.cell? ⟨pb, 1, none⟩ = some (.int .i64 a3) /\ W.cell? ⟨pb, 2, none⟩ = some (.int .i64 a4)) := fun W hW => by
    constructor <;> (rw [hW.cell (by show pb < _; omega), <- hW3, <- hpb, World.cell?_alloc_new]; rfl)
   clear hb3 k0 k1 k2 k3 k4 k5 k6 HFF HF;go_upto_region 5 with fail
   (try rw [hW3])
   (try rw [hpb])
   clear hW3 hpb;obtain ⟨k0, k1, k2, k3, k4, k5, k6⟩ := range7 (HK.out W3 HB3.out);have c1 := (HPC.out W3 bR).1;have HKK := hI (HKD.out W3 (HBW.out _ HB3.out) id a3);rw [HKS.out] at HKK;go_wp2_with fail
   refine HKK.out.mono ?_;rintro e w4 ⟨v4, rfl, hO4, hb4⟩;obtain ⟨A4, c4, hv4, h4a, h4b, h4r⟩ := OwnI.form hO4;subst hv4;have HIR := hI h4r;have HB4 := hI (HB3.out.trans (hb4.mono HB3.out.size));have HB34 := hI hb4;have hz34 := hb4.size;clear hO4 hb4 h4a h4b h4r k0 k1 k2 k3 k4 k5 k6 c1 HKK;go_wp2_with fail
   go_loopw [9, 10, 12, 13, 14, 15, 17, 18, 19, 41] (fun v9 v10 v12 v13 v14 v15 v17 v18 v19 v41 wr => ∃ i : Nat, i <= ks.length /\ v41 = .int .i64 i /\ Hid (OwnS wr w4.heap.size v9 ((ks.take i).map tx)) /\ Hid (OwnS wr w4.heap.size v10 ((ks.take i).map gl)) /\ Hid (Apart v9 v10) /\ Hid (Below w4.heap.size w4 wr)) (fun _ _ _ _ _ _ _ _ _ v41 _ => ks.length - (intOf v41).toNat)
   case atStart => exact ⟨0, Nat.zero_le _, rfl, OwnS.nil _ _, OwnS.nil _ _, Apart.nil_left _, Below.refl _ _⟩
   case round =>
    obtain ⟨i, hi, rfl, HO9, HO10, HAP, HB5⟩ := hrel;obtain ⟨w5, hw5⟩ : ∃ w5, wr = w5 := ⟨_, rfl⟩;rw [hw5] at HO9 HO10 HB5 |-;clear hw5;have HB05 : Hid (Below W0.heap.size W0 w5) := HB4.out.trans (HB5.out.mono HB4.out.size);have HB35 : Hid (Below W3.heap.size W3 w5) := HB34.out.trans (HB5.out.mono HB34.out.size);by_cases hlt : i < ks.length
    ·have hiz : (i : Int) < (ks.length : Int) := by omega
     have hiA : (0 : Int) <= (i : Int) := by omega
     obtain ⟨bd, x, hA, hbb, hidx, hc⟩ := HIR.out.at_ hlt;subst hA;have hcw : w5.cell? (bd.add i) = some (.int .i64 x) := (HB5.out.cell (by rw [block_of_add]; exact hbb)).trans hc;have HLT := hI hlt;have HN9 := hI (map_next tx hidx);have HN10 := hI (map_next gl hidx);have hl9 : ((ks.take i).map tx).length <= 20 := by rw [List.length_map, List.length_take]; omega
     have hl10 : ((ks.take i).map gl).length <= 20 := by rw [List.length_map, List.length_take]; omega
     obtain ⟨fs, hfs⟩ : ∃ x, (ks.take i).map tx = x := ⟨_, rfl⟩;obtain ⟨gs, hgs⟩ : ∃ x, (ks.take i).map gl = x := ⟨_, rfl⟩;rw [hfs] at HO9 HN9 hl9;rw [hgs] at HO10 HN10 hl10;have HGG := hI (HG.out w5 (HBW.out _ HB05.out) x);unfold getV noteV at HGG;have HTY := hI (HTX.out x);have HGX := hI (HGT.out x);obtain ⟨y, hy⟩ : ∃ y, (getN l x).getD nt0 = y := ⟨_, rfl⟩;obtain ⟨bs, hbs⟩ : ∃ bs, (getN l x).isSome = bs := ⟨_, rfl⟩;rw [hy] at HGG HTY;rw [hbs] at HGG;have hsz5 := HB5.out.size;clear hc hidx hfs hgs hy hbs;obtain ⟨k0, k1, k2, k3, k4, k5, k6⟩ := range7 (HK.out w5 HB05.out);go_wp2_with fail
     refine HGG.out.mono ?_;rintro e w6 ⟨rfl, hb6⟩;obtain ⟨pn, hpn⟩ : ∃ pn, w6.heap.size = pn := ⟨_, rfl⟩;obtain ⟨W6, hW6⟩ : ∃ W6, w6.alloc (.cells #[.int .i64 y.nid, .int .i64 y.tier, .int .i64 y.parent, .int .i64 y.at1, .int .i64 y.at2, .int .i64 y.rank, .string y.text] 58) = W6 := ⟨_, rfl⟩;have hz6 : W6.heap.size = pn + 1 := by rw [<- hW6, <- hpn]; simp
     have hb6' : Below w5.heap.size w5 W6 := by rw [<- hW6]; exact hb6.alloc hb6.size _
     have HY : Hid (∀ W, Below W6.heap.size W6 W -> W.cell? ⟨pn, 6, none⟩ = some (.string y.text)) := fun W hW => by
      rw [hW.cell (by show pn < _; omega), <- hW6, <- hpn, World.cell?_alloc_new]; rfl
     have HO9a := hI (HO9.out.on hb6');have HO10a := hI (HO10.out.on hb6');have HB6 : Hid (Below w4.heap.size w4 W6) := HB5.out.trans (hb6'.mono hsz5);have HB06 : Hid (Below W0.heap.size W0 W6) := HB4.out.trans (HB6.out.mono HB4.out.size);have HB36 : Hid (Below W3.heap.size W3 W6) := HB34.out.trans (HB6.out.mono HB34.out.size);have hsz6 := HB6.out.size;clear hb6 hb6' k0 k1 k2 k3 k4 k5 k6 HGG hcw HO9 HO10;go_upto_region 10 with fail
     (try rw [hW6])
     (try rw [hpn])
     clear hW6 hpn;obtain ⟨k0, k1, k2, k3, k4, k5, k6⟩ := range7 (HK.out W6 HB06.out);have c2 := (HPC.out W6 HB36.out).2;have HKK := hI (HKD.out W6 (HBW.out _ HB06.out) x a4);have hg20 := HKL.out x a4;obtain ⟨hs, hhs⟩ : ∃ x2, kidsL tn l x a4 = x2 := ⟨_, rfl⟩;rw [hhs] at HKK HGX hg20;clear hhs;go_wp2_with fail
     refine HKK.out.mono ?_;rintro e w7 ⟨v7, rfl, hO7, hb7⟩;obtain ⟨A7, c7, hv7, h7a, h7b, h7r⟩ := OwnI.form hO7;subst hv7;have HIR7 := hI h7r;have HB67 := hI hb7;have HB7 : Hid (Below w4.heap.size w4 w7) := HB6.out.trans (hb7.mono hsz6);have HO9b := hI (HO9a.out.on hb7);have HO10b := hI (HO10a.out.on hb7);have HB07 : Hid (Below W0.heap.size W0 w7) := HB4.out.trans (HB7.out.mono HB4.out.size);clear hO7 hb7 h7a h7b h7r k0 k1 k2 k3 k4 k5 k6 c2 HKK HO9a HO10a;go_wp2_with fail
     go_loopw [15, 17, 18, 19, 57] (fun v15 v17 v18 v19 v57 wi => ∃ j : Nat, j <= hs.length /\ v57 = .int .i64 j /\ v15 = .string ((hs.take j).foldl (fun _ k => tx k) ⟨#[]⟩) /\ Hid (Below w7.heap.size w7 wi)) (fun _ _ _ _ v57 _ => hs.length - (intOf v57).toNat)
     case atStart => exact ⟨0, Nat.zero_le _, rfl, rfl, Below.refl _ _⟩
     case round =>
      obtain ⟨j, hj, rfl, rfl, HB8⟩ := hrel;obtain ⟨w8, hw8⟩ : ∃ w8, wr = w8 := ⟨_, rfl⟩;rw [hw8] at HB8 |-;clear hw8;have HB08 : Hid (Below W0.heap.size W0 w8) := HB07.out.trans (HB8.out.mono HB07.out.size);obtain ⟨tj, htj⟩ : ∃ x2, (hs.take j).foldl (fun _ k => tx k) ⟨#[]⟩ = x2 := ⟨_, rfl⟩;have HTJ := hI htj;rw [htj];clear htj;by_cases hjt : j < hs.length
      ·have hjz : (j : Int) < (hs.length : Int) := by omega
       have hjA : (0 : Int) <= (j : Int) := by omega
       obtain ⟨bd2, x2, hA2, hbb2, hidx2, hc2⟩ := HIR7.out.at_ hjt;subst hA2;have hcw2 : w8.cell? (bd2.add j) = some (.int .i64 x2) := (HB8.out.cell (by rw [block_of_add]; exact hbb2)).trans hc2;have HJT := hI hjt;have HNJ := hI (foldl_take tx ⟨#[]⟩ hidx2);have HGG2 := hI (HG.out w8 (HBW.out _ HB08.out) x2);unfold getV noteV at HGG2;rw [HTX.out x2] at HNJ;obtain ⟨y2, hy2⟩ : ∃ y, (getN l x2).getD nt0 = y := ⟨_, rfl⟩;obtain ⟨bs2, hbs2⟩ : ∃ bs, (getN l x2).isSome = bs := ⟨_, rfl⟩;rw [hy2] at HGG2 HNJ;rw [hbs2] at HGG2;have hsz8 := HB8.out.size;clear hc2 hidx2 hy2 hbs2;obtain ⟨k0, k1, k2, k3, k4, k5, k6⟩ := range7 (HK.out w8 HB08.out);go_wp2_with fail
       refine HGG2.out.mono ?_;rintro e w9 ⟨rfl, hb9⟩;have HB9 : Hid (Below w7.heap.size w7 (w9.alloc (.cells #[.int .i64 y2.nid, .int .i64 y2.tier, .int .i64 y2.parent, .int .i64 y2.at1, .int .i64 y2.at2, .int .i64 y2.rank, .string y2.text] 58))) := HB8.out.trans ((hb9.alloc hb9.size _).mono hsz8);clear hb9 k0 k1 k2 k3 k4 k5 k6 HGG2 hcw2;go_wp2;go_roundw
       case rel =>
        first
         | exact ⟨j + 1, HJT.out, by go_num, by rw [HNJ.out], HB9⟩
         | ((repeat apply Exists.intro); refine ⟨?_, rfl⟩; exact ⟨j + 1, HJT.out, by go_num, by rw [HNJ.out], HB9⟩)
       case measure => have := HJT.out; simp [intOf]; omega
      ·obtain rfl : j = hs.length := by omega
       have hjz : ¬ (hs.length : Int) < (hs.length : Int) := by omega
       have HGE : Hid (tj = gl x) := by
        have h := HTJ.out;rw [List.take_length] at h;exact h.symm.trans HGX.out.symm
       have HB68 : Hid (Below W6.heap.size W6 w8) := HB67.out.trans (HB8.out.mono HB67.out.size);have HB48 : Hid (Below w4.heap.size w4 w8) := HB7.out.trans (HB8.out.mono HB7.out.size);have hs48 := HB48.out.size;have c6 := HY.out w8 HB68.out;have HO9c := hI (HO9b.out.on HB8.out);have HO10c := hI (HO10b.out.on HB8.out);have HAPs := hI HAP.out.symm;clear HTJ
       go_wp2_with (first
        | (at_builtin; refine wpList_app1 rfl (.tmp 70) (.tmp 73) 45 rfl w4.heap.size 9 16 (.string .empty) info_string rfl Tryz.underlying45 rfl HO9c.out rfl rfl (by omega) (by omega) hs48 ?_; rintro v9' w9 hown9 hb9 hs9 hk9; have HK9 := hI (hk9 _ _ _ _ _ _ HO10c.out HAPs.out); clear hk9; have hs49 : w4.heap.size <= w9.heap.size := (by omega))
        | (at_builtin; refine wpList_app1 rfl (.tmp 75) (.tmp 77) 45 rfl w4.heap.size 9 16 (.string .empty) info_string rfl Tryz.underlying45 rfl HK9.out.1 rfl rfl (by omega) (by omega) hs49 ?_; rintro v10' w10 hown10 hb10 hs10 hk10))
       have HOA := hI (hk10 _ _ _ _ _ _ hown9 HK9.out.2.symm);have HO9d : Hid (OwnS w10 w4.heap.size v9' (fs ++ [y.text])) := own_s (n := 0) HOA.out.1;have HO10d : Hid (OwnS w10 w4.heap.size v10' (gs ++ [tj])) := own_s (n := 0) hown10;have HBE : Hid (Below w4.heap.size w4 w10) := (HB48.out.trans hb9).trans hb10;clear hk10 hown10 hown9 hb9 hb10;rw [HGE.out, <- HN10.out] at HO10d;rw [<- HTY.out, <- HN9.out] at HO9d;go_wp2;go_roundw
       case rel =>
        first
         | exact ⟨i + 1, HLT.out, by go_num, HO9d, HO10d, HOA.out.2, HBE⟩
         | ((repeat apply Exists.intro); refine ⟨?_, rfl⟩; exact ⟨i + 1, HLT.out, by go_num, HO9d, HO10d, HOA.out.2, HBE⟩)
       case measure => have := HLT.out; simp [intOf]; omega
    ·obtain rfl : i = ks.length := by omega
     have hiz : ¬ (ks.length : Int) < (ks.length : Int) := by omega
     rw [List.take_length] at HO9 HO10;go_wp2;go_ret2;exact ⟨_, _, rfl, by rw [(HF1.out rfl).1]; exact own_base HO9.out (by have := HB4.out.size; have := HB.out.size; omega), by rw [(HF1.out rfl).2]; exact own_base HO10.out (by have := HB4.out.size; have := HB.out.size; omega), HBW.out _ HB05.out⟩
end
section
open Go.RowKit Ru Lay
structure RowN (w : World) (base rb : Nat) (Ls : List (List ByteArray)) : Prop where
 th : w.there rb 0 Ls.length
 lt : rb < base
 size : rb < w.heap.size
 rows : ∃ vs : List Value, vs.length = Ls.length /\ w.rangeAt rb 0 vs /\ (∀ (i : Nat) v A, vs[i]? = some v -> Ls[i]? = some A -> OwnS w base v A) /\ (∀ (i j : Nat) u v, i ≠ j -> vs[i]? = some u -> vs[j]? = some v -> Apart u v)
theorem RowN.on {w w' : World} {base rb : Nat} {Ls : List (List ByteArray)} (h : RowN w base rb Ls) (hb : Below w.heap.size w w') : RowN w' base rb Ls := by
 obtain ⟨vs, h1, h2, h3, h4⟩ := h.rows;exact ⟨there_below hb h.size h.th, h.lt, Nat.lt_of_lt_of_le h.size hb.size, vs, h1, range_below hb h.size h2, fun i v A hv hA => (h3 i v A hv hA).on hb, h4⟩
theorem RowN.at_ {w : World} {base rb j : Nat} {Ls : List (List ByteArray)} {A : List ByteArray} (h : RowN w base rb Ls) (hj : Ls[j]? = some A) :
  ∃ v, w.cell? ⟨rb, j, none⟩ = some v /\ w.frozen? ⟨rb, j, none⟩ = false /\ OwnS w base v A /\
   ∀ (v' : Value) (w' : World) (s : ByteArray), w'.ownsRow base 9 1 v' (A.length + 1) (A.map .string ++ [.string s]) -> Below base w w' -> w.heap.size <= w'.heap.size ->
    (∀ (base2 e2 size2 : Nat) (u : Value) (m : Nat) (ys : List Value), w.ownsRow base2 e2 size2 u m ys -> Apart u v -> w'.ownsRow base2 e2 size2 u m ys /\ Apart u v') ->
    w'.frozen? ⟨rb, j, none⟩ = false /\ w'.cell? ⟨rb, j, none⟩ = some v /\ RowN (w'.setCell ⟨rb, j, none⟩ v') base rb (Ls.set j (A ++ [s])) := by
 obtain ⟨vs, h1, h2, h3, h4⟩ := h.rows;have hjl := (List.getElem?_eq_some_iff.1 hj).1;have hjv : vs[j]? = some vs[j] := List.getElem?_eq_getElem (by omega)
 have hc : w.cell? ⟨rb, j, none⟩ = some vs[j] := by
  have := h2 j _ hjv;rwa [Nat.zero_add] at this
 have hf : w.frozen? ⟨rb, j, none⟩ = false := by
  have := (h.th j hjl).2;rwa [Nat.zero_add] at this
 refine ⟨vs[j], hc, hf, h3 j _ A hjv hj, fun v' w' s hown hb hsz hk => ?_⟩;have hbl : ∀ i, w'.cell? ⟨rb, i, none⟩ = w.cell? ⟨rb, i, none⟩ := fun i => hb.cell (by show rb < base; exact h.lt)
 have hbf : ∀ i, w'.frozen? ⟨rb, i, none⟩ = w.frozen? ⟨rb, i, none⟩ := fun i => hb.frozen (by show rb < base; exact h.lt)
 have hc' : w'.cell? ⟨rb, j, none⟩ = some vs[j] := (hbl j).trans hc;have hf' : w'.frozen? ⟨rb, j, none⟩ = false := (hbf j).trans hf;have hsame := World.cell?_setCell_same' w' ⟨rb, j, none⟩ v' (by rw [hc']; rfl)
 have hoth : ∀ i, i ≠ j -> (w'.setCell ⟨rb, j, none⟩ v').cell? ⟨rb, i, none⟩ = w.cell? ⟨rb, i, none⟩ := fun i hi => by
  rw [World.cell?_setCell_other w' _ _ v' (fun e => hi (by injection e with _ e2 _; exact e2.symm))];exact hbl i
 refine ⟨hf', hc', ⟨?_, h.lt, ?_, vs.set j v', by simpa using h1, ?_, ?_, ?_⟩⟩
 ·intro i hi;rw [List.length_set] at hi;rw [Nat.zero_add, World.frozen?_setCell, hbf i];have ht := h.th i hi;rw [Nat.zero_add] at ht;refine ⟨?_, ht.2⟩;by_cases e : i = j
  ·subst e; rw [hsame]; rfl
  ·rw [hoth i e]; exact ht.1
 ·show rb < (w'.setCells rb j [v']).heap.size;rw [setCells_sizeX];exact Nat.lt_of_lt_of_le h.size hsz
 ·intro i v hv;rw [Nat.zero_add];by_cases e : i = j
  ·subst e;rw [List.getElem?_set_self (by omega)] at hv
   cases hv;exact hsame
  ·rw [List.getElem?_set_ne (fun h => e h.symm)] at hv;rw [hoth i e];have := h2 i v hv;rwa [Nat.zero_add] at this
 ·intro i v B hv hB;by_cases e : i = j
  ·subst e;rw [List.getElem?_set_self (by omega)] at hv hB
   cases hv
   cases hB;exact own_s (n := 0) (ownsRow_setCell_below hown (by exact h.lt) v')
  ·rw [List.getElem?_set_ne (fun h => e h.symm)] at hv hB;have ho := (hk _ _ _ _ _ _ (h3 i v B hv hB) (h4 i j _ _ e hv hjv)).1;exact ownsRow_setCell_below ho (by exact h.lt) v'
 ·intro i k u v hik hu hv;by_cases e : i = j
  ·subst e;rw [List.getElem?_set_self (by omega)] at hu
   cases hu;rw [List.getElem?_set_ne hik] at hv;obtain ⟨B, hB⟩ : ∃ B, Ls[k]? = some B := ⟨_, List.getElem?_eq_getElem (by have := (List.getElem?_eq_some_iff.1 hv).1; omega)⟩;exact ((hk _ _ _ _ _ _ (h3 k v _ hv hB) (h4 k i _ _ (fun h => hik h.symm) hv hjv)).2).symm
  ·rw [List.getElem?_set_ne (fun h => e h.symm)] at hu;obtain ⟨B, hA⟩ : ∃ B, Ls[i]? = some B := ⟨_, List.getElem?_eq_getElem (by have := (List.getElem?_eq_some_iff.1 hu).1; omega)⟩;by_cases e2 : k = j
   ·subst e2;rw [List.getElem?_set_self (by omega)] at hv
    cases hv;exact (hk _ _ _ _ _ _ (h3 i u _ hu hA) (h4 i k _ _ e hu hjv)).2
   ·rw [List.getElem?_set_ne (fun h => e2 h.symm)] at hv;exact h4 i k u v hik hu hv
theorem RowN.rowsC {w : World} {base rb : Nat} {Ls : List (List ByteArray)} (h : RowN w base rb Ls) {n : Nat} (hn : n <= Ls.length) : RowsC w w.heap.size (some ⟨rb, 0, none⟩) n (Ls.take n) := by
 obtain ⟨vs, h1, h2, h3, h4⟩ := h.rows;refine ⟨vs.take n, ⟨by rw [List.length_take]; omega, fun _ => ⟨_, rfl, h.size, fun j u hu => ?_⟩⟩, by rw [List.length_take]; omega, fun i l hil => ?_⟩
 ·rw [Addr.add_mid, Nat.zero_add];rw [List.getElem?_take] at hu;split at hu
  ·have := h2 j u hu;rwa [Nat.zero_add] at this
  ·cases hu
 ·rw [List.getElem?_take] at hil;split at hil
  ·rename_i hin
   have hv : vs[i]? = some vs[i] := List.getElem?_eq_getElem (by have := (List.getElem?_eq_some_iff.1 hil).1; omega);obtain ⟨A, c, e1, e2, e3, e4⟩ := OwnS.form (h3 i _ l hv hil);refine ⟨A, l.length, c, ?_, e4, e2, e3⟩;rw [List.getElem?_take, if_pos hin, hv, e1]
  ·cases hil
theorem RowN.new (w : World) (base : Nat) (hb : base = w.heap.size + 1) : RowN (w.alloc (.cells #[.slice none 0 0, .slice none 0 0, .slice none 0 0] 45)) base w.heap.size [[], [], []] := by
 refine ⟨there_new w _ _, by omega, by simp, [.slice none 0 0, .slice none 0 0, .slice none 0 0], rfl, fun j v hv => ?_, fun i v A hv hA => ?_, fun i j u v _ hu hv => ?_⟩
 ·rw [Nat.zero_add, World.cell?_alloc_new, <- hv, <- List.getElem?_toArray]
 ·match i, hv, hA with
  | 0, hv, hA => cases hv; cases hA; exact OwnS.nil _ _
  | 1, hv, hA => cases hv; cases hA; exact OwnS.nil _ _
  | 2, hv, hA => cases hv; cases hA; exact OwnS.nil _ _
 ·match i, hu with
  | 0, hu => cases hu; exact Apart.nil_left _
  | 1, hu => cases hu; exact Apart.nil_left _
  | 2, hu => cases hu; exact Apart.nil_left _
structure RowG (w : World) (base rb : Nat) (Ls : List (List ByteArray)) (va : Value) (b6 : Nat) (ys : List ByteArray) : Prop where
 rowN : RowN w base rb Ls
 own : OwnS w b6 va ys
 lt : rb < b6
 apart : ∀ (i : Nat) v, i < Ls.length -> w.cell? ⟨rb, i, none⟩ = some v -> Apart va v
theorem RowG.at_ {w : World} {base rb j b6 : Nat} {Ls : List (List ByteArray)} {va : Value} {ys A : List ByteArray} (h : RowG w base rb Ls va b6 ys) (hj : Ls[j]? = some A) :
  ∃ v, w.cell? ⟨rb, j, none⟩ = some v /\ w.frozen? ⟨rb, j, none⟩ = false /\ OwnS w base v A /\
   ∀ (v' : Value) (w' : World) (s : ByteArray), w'.ownsRow base 9 1 v' (A.length + 1) (A.map .string ++ [.string s]) -> Below base w w' -> w.heap.size <= w'.heap.size ->
    (∀ (base2 e2 size2 : Nat) (u : Value) (m : Nat) (ys : List Value), w.ownsRow base2 e2 size2 u m ys -> Apart u v -> w'.ownsRow base2 e2 size2 u m ys /\ Apart u v') ->
    w'.frozen? ⟨rb, j, none⟩ = false /\ w'.cell? ⟨rb, j, none⟩ = some v /\ RowG (w'.setCell ⟨rb, j, none⟩ v') base rb (Ls.set j (A ++ [s])) va b6 ys := by
 obtain ⟨v, h1, h2, h3, h4⟩ := h.rowN.at_ hj;have hjl := (List.getElem?_eq_some_iff.1 hj).1;refine ⟨v, h1, h2, h3, fun v' w' s hown hb hsz hk => ?_⟩;obtain ⟨g1, g2, g3⟩ := h4 v' w' s hown hb hsz hk;have ha := hk _ _ _ _ _ _ h.own (h.apart j v hjl h1);refine ⟨g1, g2, g3, ownsRow_setCell_below ha.1 (by exact h.lt) v', h.lt, fun i u hi hu => ?_⟩;rw [List.length_set] at hi;by_cases e : i = j
 ·subst e;rw [World.cell?_setCell_same' w' ⟨rb, i, none⟩ v' (by rw [g2]; rfl)] at hu
  cases hu;exact ha.2
 ·rw [World.cell?_setCell_other w' _ _ v' (fun e2 => e (by injection e2 with _ e3 _; exact e3.symm)), hb.cell (by show rb < base; exact h.rowN.lt)] at hu;exact h.apart i u hi hu
theorem RowG.new {w : World} {base rb b6 : Nat} {Ls : List (List ByteArray)} {va : Value} {ys : List ByteArray} (h : RowN w base rb Ls) (ho : OwnS w b6 va ys) (hlt : rb < b6) (hb : ∀ (i : Nat) v, i < Ls.length -> w.cell? ⟨rb, i, none⟩ = some v -> Apart va v) : RowG w base rb Ls va b6 ys := ⟨h, ho, hlt, hb⟩
theorem RowN.block {w : World} {base rb i : Nat} {Ls : List (List ByteArray)} {v : Value} (h : RowN w base rb Ls) (hi : i < Ls.length) (hc : w.cell? ⟨rb, i, none⟩ = some v) : ∀ b, v.ownBlock = some b -> b < w.heap.size := fun b hb => by
 obtain ⟨u, h1, h2, h3, _⟩ := h.at_ (List.getElem?_eq_getElem hi);rw [hc] at h1
 cases h1;exact (h3.lt b hb).2
theorem strs_made (w : World) (xs : List ByteArray) (c : Array Value) (hc : c.toList = xs.map .string) (n : Nat) (hn : n = xs.length) (hmax : xs.length <= 1000000) : OwnS (w.alloc (.cells c 9)) w.heap.size (.slice (some ⟨w.heap.size, 0, none⟩) n n) xs := by
 subst hn;have hsz : c.size = xs.length := by rw [<- Array.length_toList, hc, List.length_map]
 have h := World.ownsRow_lit (base := w.heap.size) (e := 9) (size := 1) w c xs.length (Nat.le_refl _) (by unfold maxLen; omega) (by omega);rw [hc] at h;exact h
def upto : List (List ByteArray) -> List ByteArray -> Nat -> List (List ByteArray)
 | A :: Ls, x :: xs, j + 1 => (A ++ [x]) :: upto Ls xs j
 | Ls, _, _ => Ls
theorem upto_zero (Ls : List (List ByteArray)) (xs : List ByteArray) : upto Ls xs 0 = Ls := by
 cases Ls <;> cases xs <;> rfl
theorem upto_next : ∀ (Ls : List (List ByteArray)) (xs : List ByteArray) (j : Nat) (x : ByteArray), Ls.length = xs.length -> xs[j]? = some x ->
  ∃ A, (upto Ls xs j)[j]? = some A /\ A = Ls.getD j [] /\ upto Ls xs (j + 1) = (upto Ls xs j).set j (A ++ [x])
 | [], [], _, _, _, h => by simp at h
 | [], _ :: _, _, _, h, _ => by simp at h
 | _ :: _, [], _, _, h, _ => by simp at h
 | A :: Ls, y :: xs, 0, x, _, h => by
  simp at h
  subst h;refine ⟨A, rfl, rfl, ?_⟩;show (A ++ [y]) :: upto Ls xs 0 = _;rw [upto_zero];rfl
 | A :: Ls, y :: xs, j + 1, x, hl, h => by
  obtain ⟨B, h1, h2, h3⟩ := upto_next Ls xs j x (by simpa using hl) (by simpa using h);refine ⟨B, h1, h2, ?_⟩;show (A ++ [y]) :: upto Ls xs (j + 1) = _;rw [h3];rfl
end
section
open Go.RowKit Ru Lay
attribute [local go_sem ↓] Go.wp_at_zero Go.wp_at_succ
theorem joinDash_any (A : Option Addr) (n c : Nat) (l : List ByteArray) (w : World) (hl : SR w w.heap.size A n l) (hz : SzS l) (hc : n <= c) :
  Calls Tryz.prog 39 #[.slice A n c, .string ⟨#[45]⟩] w fun e w' => e = .returned (.string (joinD l)) /\ Below w.heap.size w w' := by
 have hn := hl.len;have h1000 := hz.1
 cases n with
 | zero =>
  have : l = [] := List.eq_nil_of_length_eq_zero hn;subst this;refine (Tryz.strings_Join_none A c ⟨#[45]⟩ w).mono ?_;rintro e w' ⟨rfl, rfl⟩;exact ⟨rfl, Below.refl _ _⟩
 | succ n =>
  obtain ⟨ad, s, rfl, hab, _, h0⟩ := hl.at_ (k := 0) (by omega);have hp := addr_plain h0;rw [Addr.add, if_pos rfl] at hp
  obtain ⟨_, ad', he, _, hcell⟩ := show ∃ _ : True, ∃ ad', some ad = some ad' /\ ad'.block < w.heap.size /\ ∀ j u, (l.map Value.string)[j]? = some u -> w.cell? (ad'.add (j * 1)) = some u from by
   obtain ⟨a1, e1, h1, h2⟩ := hl.2 (by omega);exact ⟨trivial, a1, e1, h1, fun j u hu => by rw [Nat.mul_one]; exact h2 j u hu⟩
  cases he
  have hlen : (Lib.join (l.map (·.data.toList)) (⟨#[45]⟩ : ByteArray).data.toList).length <= 140737488355328 := by
   have h1 := joinD_sz hz.2;have h2 : (joinD l).size = (Lib.join (l.map (·.data.toList)) (⟨#[45]⟩ : ByteArray).data.toList).length := List.size_toArray;rw [h2] at h1;have h3 : l.length * (1000 + 1) <= 1000 * 1001 := Nat.mul_le_mul_right 1001 h1000;omega
  have h := Tryz.strings_Join ad.block ad.off c l ⟨#[45]⟩ w (fun j x hx => by
   have := hcell j (.string x) (by rw [List.getElem?_map, hx]; rfl);rw [Nat.mul_one] at this
   have e : ad.add j = ⟨ad.block, ad.off + j, none⟩ := by
    unfold Addr.add;split
    ·rename_i hj; rw [hj]; exact hp
    ·rfl
   rw [e] at this;exact this) hab (by omega) (by omega) hlen
  rw [hn, <- hp] at h;exact h
end
end Go.Proofs.YthcabnfcgjnlnaaGreatDoor
