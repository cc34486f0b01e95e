import Derived.Test.YthcabnfcgjnlnaaGreatDoorLi11
set_option linter.unusedVariables false
set_option linter.unusedSimpArgs false
namespace Go.Proofs.YthcabnfcgjnlnaaGreatDoor
section
open Go.RowKit Ru Lay
attribute [local go_sem ↓] Go.wp_at_zero Go.wp_at_succ
theorem exL_ref {T : List Ti} {l : List Nt} (h : DocOk T l) (id : Int) (K : Nat) (WD : Int) :
  exL T l id K WD = wrapL (rowsL T l id K) WD ++ (kidF T l id (roleT T 5)).map (fun x => quoB (textN l x)) := by
 unfold exL
 cases hb : (getN l id).isSome with
 | true => rfl
 | false =>
  have h0 : rowsL T l id K = [] := by unfold rowsL; rw [hb]; rfl
  have h1 : wrapL ([] : List (List ByteArray)) WD = [] := wrapL_none rfl
  have hn : getN l id = none := by
   cases e : getN l id with
   | none => rfl
   | some x => rw [e] at hb; cases hb
  have h2 : kidF T l id (roleT T 5) = [] := by
   rcases roleT_some T 5 with e | ⟨h0, h1, h2, _⟩
   ·unfold kidF ofI;rw [e, if_pos (by omega)];rfl
   ·refine kidF_none h hn _ ?_;have h3 := (h.at_ h0 h1).2;rw [h2] at h3;have h4 : kind11 5 ≠ 0 /\ 0 <= kind11 5 := by decide
    rw [h3 h4.2];exact h4.1
  rw [h0, h1, h2];rfl
theorem kidF_len {T : List Ti} {l : List Nt} {id t : Int} : (kidF T l id t).length <= l.length := by
 unfold kidF;exact Nat.le_trans (List.length_filter_le _ _) ofI_len
theorem kidF_neg {T : List Ti} {l : List Nt} {id t : Int} (h : t < 0) : kidF T l id t = [] := by
 unfold kidF ofI;rw [if_pos (Or.inl h)];rfl
theorem one_strE (l : List ByteArray) : ∀ u ∈ l.map Value.string, u.oneCell' = true := fun u hu => by
 obtain ⟨s, _, rfl⟩ := List.mem_map.1 hu;rfl
set_option maxHeartbeats 8000000 in
set_option maxRecDepth 100000 in
theorem refExample_any (d : Dv) (T : List Ti) (l : List Nt) (id : Int) (K : Nat) (WD : Int) (w : World) (hT : TiersR w w.heap.size d.ta d.tn T) (hl : NotesR w w.heap.size d.na d.nn l) (hok : DocOk T l) (hn : d.nn < 20) (htn : d.tn <= 1000000)
  (hend : ∀ x, curF l x K = none) (hK : K <= d.tn + 1) (hWD : WD <= 9223372036854775807) :
  Calls Tryz.prog 23 #[docV d, .int .i64 id, .int .i64 WD] w fun e w' => ∃ v, e = .returned v /\ OwnS w' w.heap.size v (exL T l id K WD) /\ Below w.heap.size w w' := by
 have hTl := hT.len;have hNl := hl.len;have hz : TxtZ l := fun y hy => hok.text hy
 have HRW : Hid (∀ W, Below w.heap.size w W -> Calls Tryz.prog 20 #[docV d, .int .i64 id] W fun e w' => (∃ v, e = .returned v /\ RwO (rowsL T l id K) v w') /\ Below W.heap.size W w') := fun W hW => (refRows_any d T l id K W (hT.on hW) (hl.on hW) hok hn htn hend hK).mono fun e w' ⟨h1, h2⟩ => ⟨RwO.of h1, h2⟩
 have HG := hI fun (W : World) (hW : Below w.heap.size w W) (i : Int) => refGet_any d l i W (hl.on hW) (by omega)
 have HRO := hI fun (W : World) (hW : Below w.heap.size w W) => refRole_any d.ta d.tn d.tc T 5 W (hT.on hW) (by omega)
 have hrl := roleT_some T 5;have HOF := hI fun (h0 : 0 <= roleT T 5 /\ roleT T 5 < (T.length : Int)) (W : World) (hW : Below w.heap.size w W) => refKids_any d T l id (roleT T 5) W hok.light (hT.on hW) (hl.on hW) hn h0
 have HNG := hI fun (h : roleT T 5 < 0) => kidF_neg (T := T) (l := l) (id := id) h
 have hlen : (kidF T l id (roleT T 5)).length <= 20 := by have := kidF_len (T := T) (l := l) (id := id) (t := roleT T 5); omega
 have HSZ := hI (rowsL_sz (T := T) (id := id) (K := K) hz (by omega));have HTX := hI (txtZ_get hz);have hwl : (wrapL (rowsL T l id K) WD).length <= 100 := wrapL_short (rowsL_few T l id K (by omega));have hrl2 : roleT T 5 < 0 ∨ (0 <= roleT T 5 /\ roleT T 5 < (T.length : Int)) := by rcases hrl with e | ⟨h0, h1, _⟩ <;> omega
 have HRL := hI hrl2;rw [exL_ref hok];clear hT hl hok hend hz hTl hrl hNl hrl2;obtain ⟨rt, hrt⟩ : ∃ x, roleT T 5 = x := ⟨_, rfl⟩;rw [hrt] at HRO HOF HNG HRL hlen |-;obtain ⟨ks, hks⟩ : ∃ x, kidF T l id rt = x := ⟨_, rfl⟩;rw [hks] at HOF HNG hlen |-;obtain ⟨RL, hRL⟩ : ∃ x, rowsL T l id K = x := ⟨_, rfl⟩;rw [hRL] at HRW HSZ hwl |-;obtain ⟨WL, hWL⟩ : ∃ x, wrapL RL WD = x := ⟨_, rfl⟩;have HWL := hI hWL;rw [hWL] at hwl |-;clear hrt hks hRL hWL;unfold docV at HRW HG HOF;unfold docV;obtain ⟨rid, name, len, day, sa, sn, sc, ta, tn, tc, na, nn, nc⟩ := d;simp only at HRW HG HRO HOF hn htn |-;obtain ⟨W0, hW0, hz0, hB0, hK0⟩ := doc_cells w rid name len day sa ta na sn sc tn tc nn nc;have HB := hI hB0;have HK := hI hK0;have HBW : Hid (∀ W, Below W0.heap.size W0 W -> Below w.heap.size w W) := fun W hW => HB.out.trans (hW.mono HB.out.size)
 clear hB0 hK0;have HR0 := hI (HRW.out W0 HB.out);go_enter Tryz.func23, Tryz.ntmps23
 go_upto_region 1 with fail
 (try rw [hW0])
 clear hW0 HRW;obtain ⟨k0, k1, k2, k3, k4, k5, k6⟩ := range7 (HK.out W0 (Below.refl _ _));go_wp2_with fail
 refine HR0.out.mono ?_;rintro e w2 ⟨⟨v2, rfl, A2, n2, c2, rfl, hRC, hn2⟩, hb2⟩;have HB2 := hI hb2;have HWR := hI (refWrap_any A2 n2 c2 RL WD w2 hRC HSZ.out hWD);rw [HWL.out] at HWR;have hz02 := HB2.out.size;clear hb2 k0 k1 k2 k3 k4 k5 k6 HR0 hRC hn2;go_wp2_with fail
 refine HWR.out.mono ?_;rintro e w3 ⟨v8, rfl, hO8, hb3⟩;obtain ⟨A8, c8, hv8, h8a, h8b, h8r⟩ := OwnS.form hO8;subst hv8;have HS8 := hI h8r;have HB3 := hI (HB2.out.trans (hb3.mono HB2.out.size));have hz03 := HB3.out.size;clear hO8 hb3 HWR h8r;go_upto_region 3 with (at_builtin; refine wpList_app rfl (.tmp 13) (.tmp 18) 45 rfl w3.heap.size 9 16 (.string .empty) info_string rfl Tryz.underlying45 rfl (n := 0) (World.ownsRow_nil _ _ _ _) (A := A8) (m := WL.length) (c := c8) rfl HS8.out (one_strE _) (by omega) (by omega) (Nat.le_refl _) ?_; intro v7 w4 hown hg hat)
 have HO4 : Hid (OwnS w4 w3.heap.size v7 WL) := by
  rw [Nat.zero_add, List.nil_append] at hown;exact hown
 have hb34 : Below w3.heap.size w3 w4 := below_app (Below.refl _ w3) (show w3.ownsRow w3.heap.size 9 1 (.slice none 0 0) 0 [] from World.ownsRow_nil _ _ _ _) hg (Nat.le_refl _) (Nat.le_refl _);have HB34 := hI hb34;have HB4 := hI (HB3.out.trans (hb34.mono HB3.out.size));have hz34 := hb34.size;clear hown hg hat hb34 HS8;have k5 : w4.cell? ⟨w.heap.size, 5, none⟩ = some (.slice ta tn tc) := HK.out w4 HB4.out 5 _ rfl;have HRR := hI (HRO.out w4 (HBW.out _ HB4.out));go_wp2_with fail
 refine HRR.out.mono ?_;rintro e w5 ⟨rfl, hb5⟩;have HO5 := hI (HO4.out.on hb5);have HB35 := hI (HB34.out.trans (hb5.mono hz34));have HB5 := hI (HB4.out.trans (hb5.mono HB4.out.size));have hz35 := HB35.out.size;clear hb5 k5 HRR HO4;rcases HRL.out with hlt0 | hge0
 ·have HZR := HNG.out hlt0;subst HZR;go_wp2;go_ret;exact ⟨_, rfl, by rw [List.map_nil, List.append_nil]; exact own_base HO5.out (by have := HB.out.size; omega), HBW.out _ HB5.out⟩
 ·have hnl : ¬ rt < 0 := by omega
  have HOO := hI (HOF.out hge0 w5 (HBW.out _ HB5.out));clear hge0 HOF HNG HRL;obtain ⟨k0, k1, k2, k3, k4, k5, k6⟩ := range7 (HK.out w5 HB5.out);go_wp2_with fail
  refine HOO.out.mono ?_;rintro e w6 ⟨v9, rfl, hO9, hb6⟩;obtain ⟨A9, c9, hv9, h9a, h9b, h9r⟩ := OwnI.form hO9;subst hv9;have HB6 := hI (HB5.out.trans (hb6.mono HB5.out.size));have HB36 := hI (HB35.out.trans (hb6.mono hz35));have HO6 := hI (HO5.out.on hb6);have HI6 := hI hO9
  have HAP6 : Hid (Apart (.slice A9 ks.length c9) v7) := fun b hb he => by
   have h1 := (hO9.lt b hb).1;have h2 := (HO5.out.lt b he).2;omega
  clear hO9 hb6 h9a h9b h9r k0 k1 k2 k3 k4 k5 k6 HOO HO5;go_wp2_with fail
  go_loopw [7, 10, 11, 12, 32] (fun v7 v10 v11 v12 v32 wr => ∃ i : Nat, i <= ks.length /\ v32 = .int .i64 i /\ Hid (OwnS wr w3.heap.size v7 (WL ++ (ks.take i).map fun x => quoB (textN l x))) /\ Hid (OwnI wr w5.heap.size (.slice A9 ks.length c9) ks) /\ Hid (Apart (.slice A9 ks.length c9) v7) /\ Hid (Below w3.heap.size w3 wr)) (fun _ _ _ _ v32 _ => ks.length - (intOf v32).toNat)
  case atStart => exact ⟨0, Nat.zero_le _, rfl, (by rw [List.take_zero, List.map_nil, List.append_nil]; exact HO6.out), HI6.out, HAP6.out, HB36.out⟩
  case round =>
   clear HO6 HI6 HAP6 HB36 HB6;obtain ⟨i, hi, rfl, HO, HI, HAP, HB37⟩ := hrel;obtain ⟨w7, hw7⟩ : ∃ w7, wr = w7 := ⟨_, rfl⟩;rw [hw7] at HO HI HB37 |-;clear hw7;have HB07 : Hid (Below W0.heap.size W0 w7) := HB3.out.trans (HB37.out.mono HB3.out.size);have hz37 := HB37.out.size;by_cases hlt : i < ks.length
   ·have hiz : (i : Int) < (ks.length : Int) := by omega
    have hiA : (0 : Int) <= (i : Int) := by omega
    obtain ⟨A10, c10, hv10, _, _, h9r⟩ := OwnI.form HI.out;injection hv10 with hA9 _ hc9
    rw [<- hA9] at h9r;obtain ⟨bd, x, hA, hbb, hidx, hc⟩ := h9r.at_ hlt;subst hA;have HLT := hI hlt;have HNX : Hid ((ks.take (i + 1)).map (fun x => quoB (textN l x)) = (ks.take i).map (fun x => quoB (textN l x)) ++ [quoB (textN l x)]) := map_next _ hidx
    have hpt : (WL ++ (ks.take i).map fun x => quoB (textN l x)).length <= 120 := by
     rw [List.length_append, List.length_map, List.length_take];omega
    obtain ⟨ll, hll⟩ : ∃ ll, (ks.take i).map (fun x => quoB (textN l x)) = ll := ⟨_, rfl⟩;rw [hll] at HNX hpt HO;have HGX := hI fun (W : World) (hW : Below w7.heap.size w7 W) => HG.out W (HBW.out _ (HB07.out.trans (hW.mono HB07.out.size))) x
    unfold getV noteV at HGX;have hsx := HTX.out x;have htx : textN l x = ((getN l x).getD nt0).text := rfl;rw [htx] at HNX;obtain ⟨y, hy⟩ : ∃ y, (getN l x).getD nt0 = y := ⟨_, rfl⟩;obtain ⟨bs, hbs⟩ : ∃ bs, (getN l x).isSome = bs := ⟨_, rfl⟩;rw [hy] at HGX hsx HNX;rw [hbs] at HGX;have HCX : Hid (∀ W, Below w7.heap.size w7 W -> W.cell? (bd.add i) = some (.int .i64 x)) := fun W hW => (hW.cell (by rw [block_of_add]; exact hbb)).trans hc
    have HDX : Hid (∀ W, Below w7.heap.size w7 W -> W.rangeAt w.heap.size 0 [.int .i64 rid, .string name, .int .i64 len, .int .i64 day, .slice sa sn sc, .slice ta tn tc, .slice na nn nc]) := fun W hW => HK.out W (HB07.out.trans (hW.mono HB07.out.size))
    have HML2 : Hid (WL ++ (ks.take (i + 1)).map (fun x => quoB (textN l x)) = (WL ++ ll) ++ [quoB y.text]) := by
     show _ = _;rw [HNX.out, List.append_assoc]
    obtain ⟨ML, hML⟩ : ∃ z, WL ++ ll = z := ⟨_, rfl⟩;rw [hML] at HO hpt HML2;clear hidx hll HNX h9r hy hbs hA9 hc9 hML htx hc hbb;go_upto_region 10 with fail
    refine wp_region_toldA 9 10 7 [.int .i64 y.nid, .int .i64 y.tier, .int .i64 y.parent, .int .i64 y.at1, .int .i64 y.at2, .int .i64 y.rank, .string y.text] [ToldA.is (.agg #[.int .i64 rid, .string name, .int .i64 len, .int .i64 day, .slice sa sn sc, .slice ta tn tc, .slice na nn nc]), ToldA.is (.slice (some bd) ks.length c9), ToldA.is (.int .i64 (i : Int)), ToldA.is (.pointer (some (bd.add i))), ToldA.is (.int .i64 x), ToldA.is (.tuple #[.agg #[.int .i64 y.nid, .int .i64 y.tier, .int .i64 y.parent, .int .i64 y.at1, .int .i64 y.at2, .int .i64 y.rank, .string y.text], .bool bs]), ToldA.is (.tuple #[.agg #[.int .i64 y.nid, .int .i64 y.tier, .int .i64 y.parent, .int .i64 y.at1, .int .i64 y.at2, .int .i64 y.rank, .string y.text], .bool bs]), ToldA.is (.agg #[.int .i64 y.nid, .int .i64 y.tier, .int .i64 y.parent, .int .i64 y.at1, .int .i64 y.at2, .int .i64 y.rank, .string y.text]), ToldA.is (.bool bs), ToldA.new, ToldA.put, ToldA.is (.bool bs)] (by omega) (by kernel_rfl) (by kernel_rfl) rfl ?_ ?_
    ·refine And.intro (fun w1 vals hB hd a1 ha1 K hK => ?_) ?_
     ·clear hd;subst ha1;simp only [putAll, Act.put, pS] at hK |-;refine gwp_none rfl ?_;refine wp_load_mid 38 (.tmp 3) rfl w.heap.size 0 rfl [.int .i64 rid, .string name, .int .i64 len, .int .i64 day, .slice sa sn sc, .slice ta tn tc, .slice na nn nc] _ (HDX.out w1 hB) Tryz.underlying38 rfl (by kernel_rfl) ?_;simp only [Act.put, pS];exact hK _ _ rfl bR
     refine And.intro (fun w1 vals hB hd a1 ha1 K hK => ?_) ?_
     ·clear hd;subst ha1;simp only [putAll, Act.put, pS] at hK |-;refine gwp_none rfl ?_;go_simp;exact hK _ _ rfl bR
     refine And.intro (fun w1 vals hB hd a1 ha1 K hK => ?_) ?_
     ·clear hd;subst ha1;simp only [putAll, Act.put, pS] at hK |-;refine gwp_none rfl ?_;go_simp;exact hK _ _ rfl bR
     refine And.intro (fun w1 vals hB hd a1 ha1 K hK => ?_) ?_
     ·have e1 := tIA (hd 1 rfl) rfl;have e2 := tIA (hd 2 rfl) rfl;clear hd;subst ha1;simp only [putAll, Act.put, pS] at hK |-;simp only [e1, e2] at hK |-;clear e1 e2;refine gwp_none rfl ?_;go_simp;exact hK _ _ rfl bR
     refine And.intro (fun w1 vals hB hd a1 ha1 K hK => ?_) ?_
     ·have e3 := tIA (hd 3 rfl) rfl;clear hd;subst ha1;simp only [putAll, Act.put, pS] at hK |-;simp only [e3] at hK |-;clear e3;refine gwp_none rfl ?_;have hc := HCX.out w1 hB;go_simp;exact hK _ _ rfl bR
     refine And.intro (fun w1 vals hB hd a1 ha1 K hK => ?_) ?_
     ·have e0 := tIA (hd 0 rfl) rfl;have e4 := tIA (hd 4 rfl) rfl;clear hd;subst ha1;simp only [putAll, Act.put, pS] at hK |-;simp only [e0, e4] at hK |-;clear e0 e4;refine gwp_none rfl ?_;go_simp;refine (HGX.out w1 hB).mono ?_;rintro e w3 ⟨rfl, hb⟩;exact hK _ _ rfl hb
     refine And.intro (fun w1 vals hB hd a1 ha1 K hK => ?_) ?_
     ·have e5 := tIA (hd 5 rfl) rfl;clear hd;subst ha1;simp only [putAll, Act.put, pS] at hK |-;simp only [e5] at hK |-;clear e5;refine gwp_none rfl ?_;go_simp;exact hK _ _ rfl bR
     refine And.intro (fun w1 vals hB hd a1 ha1 K hK => ?_) ?_
     ·have e6 := tIA (hd 6 rfl) rfl;clear hd;subst ha1;simp only [putAll, Act.put, pS] at hK |-;simp only [e6] at hK |-;clear e6;refine gwp_none rfl ?_;go_simp;exact hK _ _ rfl bR
     refine And.intro (fun w1 vals hB hd a1 ha1 K hK => ?_) ?_
     ·have e6 := tIA (hd 6 rfl) rfl;clear hd;subst ha1;simp only [putAll, Act.put, pS] at hK |-;simp only [e6] at hK |-;clear e6;refine gwp_none rfl ?_;go_simp;exact hK _ _ rfl bR
     refine And.intro (fun w1 vals hB hd a1 ha1 K hK => ?_) ?_
     ·clear hd;subst ha1;simp only [putAll, Act.put, pS] at hK |-;refine gwp_none rfl ?_;go_simp;exact hK _ _ ⟨_, rfl, hB.size, by simp, there_new w1 _ _⟩ (bR.alloc (Nat.le_refl _) _)
     refine And.intro (fun w1 vals hB hd a1 ha1 K hK => ?_) ?_
     ·have e7 := tIA (hd 7 rfl) rfl;have p9 : NewAt 7 _ (vals 9) _ := toldA_at (t := ToldA.new) (hd 9 rfl) rfl;clear hd;refine gwp_none rfl ?_;obtain ⟨bN, hvN, h0N, h1N, hth⟩ := p9;have hev1 : a1.eval (.tmp 11) = .pointer (some ⟨bN, 0, none⟩) := by rw [ha1]; exact (eval_slot (i := 9) (by kernel_rfl) (by kernel_rfl) rfl).trans hvN
      have hev2 : a1.eval (.tmp 42) = .agg #[.int .i64 y.nid, .int .i64 y.tier, .int .i64 y.parent, .int .i64 y.at1, .int .i64 y.at2, .int .i64 y.rank, .string y.text] := by rw [ha1]; exact (eval_slot (i := 7) (by kernel_rfl) (by kernel_rfl) rfl).trans e7
      clear ha1;obtain ⟨wS, hwS⟩ : ∃ wS, w1.setCells bN 0 (#[.int .i64 y.nid, .int .i64 y.tier, .int .i64 y.parent, .int .i64 y.at1, .int .i64 y.at2, .int .i64 y.rank, .string y.text] : Array Value).toList = wS := ⟨_, rfl⟩;have hX : BelowX bN w1 wS := by rw [<- hwS]; exact BelowX.set _ _ _
      have hR : wS.rangeAt bN 0 [.int .i64 y.nid, .int .i64 y.tier, .int .i64 y.parent, .int .i64 y.at1, .int .i64 y.at2, .int .i64 y.rank, .string y.text] := by rw [<- hwS]; exact World.rangeAt_setCells_same w1 bN 0 [.int .i64 y.nid, .int .i64 y.tier, .int .i64 y.parent, .int .i64 y.at1, .int .i64 y.at2, .int .i64 y.rank, .string y.text] hth
      refine wp_store_mid 58 (.tmp 11) (.tmp 42) rfl bN 0 #[.int .i64 y.nid, .int .i64 y.tier, .int .i64 y.parent, .int .i64 y.at1, .int .i64 y.at2, .int .i64 y.rank, .string y.text] hev1 hev2 hth (by kernel_rfl) (by simp [Value.oneCell']) ?_;rw [hwS];exact hK undef wS trivial ⟨by kernel_rfl, bN, hvN, h0N, h1N, hX, hR⟩
     refine And.intro (fun w1 vals hB hd a1 ha1 K hK => ?_) ?_
     ·have e8 := tIA (hd 8 rfl) rfl;clear hd;subst ha1;simp only [putAll, Act.put, pS] at hK |-;simp only [e8] at hK |-;clear e8;refine gwp_none rfl ?_;go_simp;exact hK _ _ rfl bR
     exact trivial
    ·intro w1 vals hB hd hfl;have e11 := tIA (hd 11 (by decide)) rfl;obtain ⟨bN, hvN, h0N, h1N, hrN⟩ := hfl (by decide);clear hfl;clear hd;simp only [putAll, Act.put, pS];simp only [e11, hvN];clear e11 hvN;have HOO := hI (HO.out.on hB);have HIO := hI (HI.out.on hB);have HB8 : Hid (Below w3.heap.size w3 w1) := HB37.out.trans (hB.mono hz37);have c6 : w1.cell? ⟨bN, 6, none⟩ = some (.string y.text) := hrN 6 _ rfl;obtain ⟨w8, hw8⟩ : ∃ w8, w1 = w8 := ⟨_, rfl⟩;rw [hw8] at HOO HIO HB8 c6 |-;have hz38 := HB8.out.size;clear hB hrN h0N h1N HCX HDX HGX HO HI hw8
     have hs1 : (⟨#[34]⟩ : ByteArray).size + y.text.size <= 9223372036854775807 := by
      have : (⟨#[34]⟩ : ByteArray).size = 1 := rfl;omega
     have hs2 : ((⟨#[34]⟩ : ByteArray) ++ y.text).size + (⟨#[34]⟩ : ByteArray).size <= 9223372036854775807 := by
      have : (⟨#[34]⟩ : ByteArray).size = 1 := rfl;rw [ByteArray.size_append];omega
     go_wp2_with (at_builtin; refine wpList_app1 rfl (.tmp 44) (.tmp 49) 45 rfl w3.heap.size 9 16 (.string .empty) info_string rfl Tryz.underlying45 rfl HOO.out (by rfl) rfl (by omega) (by omega) (by omega) ?_; rintro v5 w9 hown5 hb5 hs5 hk5)
     obtain ⟨hI4, hA4⟩ := hk5 _ _ _ _ _ _ HIO.out HAP.out;have HI4 := hI hI4;have HA4 := hI hA4;have HO4 : Hid (OwnS w9 w3.heap.size v5 (ML ++ [quoB y.text])) := own_s (n := 0) hown5;have HB4 : Hid (Below w3.heap.size w3 w9) := HB8.out.trans hb5;rw [<- HML2.out] at HO4;clear hown5 hb5 hk5 hI4 hA4;go_wp2;go_roundw
     case rel =>
      first
       | exact ⟨i + 1, HLT.out, by go_num, HO4, HI4, HA4, HB4⟩
       | ((repeat apply Exists.intro); refine ⟨?_, rfl⟩; exact ⟨i + 1, HLT.out, by go_num, HO4, HI4, HA4, HB4⟩)
     case measure => have := HLT.out; simp [intOf]; omega
   ·obtain rfl : i = ks.length := by omega
    have hiz : ¬ (ks.length : Int) < (ks.length : Int) := by omega
    rw [List.take_length] at HO;go_wp2;go_ret;exact ⟨_, rfl, own_base HO.out (by have := HB.out.size; omega), HBW.out _ HB07.out⟩
def tailD (u : Nat) : List UInt8 := if u = 0 then [] else Lib.decDigits u
theorem decD_step {u : Nat} (h : u ≠ 0) : tailD u = tailD (u / 10) ++ [UInt8.ofNat (48 + u % 10)] := by
 unfold tailD;rw [if_neg h, Lib.decDigits];by_cases h1 : u < 10
 ·rw [dif_pos h1, if_pos (by omega), Nat.mod_eq_of_lt h1];rfl
 ·rw [dif_neg h1, if_neg (by omega)]
theorem itoaB_zero : itoaB 0 = ⟨#[48]⟩ := by
 unfold itoaB Lib.itoa;rw [if_neg (by omega), show (0 : Int).toNat = 0 from rfl, Lib.decDigits];rfl
set_option maxHeartbeats 4000000 in
set_option maxRecDepth 100000 in
theorem refText_any (n : Int) (w : World) (h0 : -9223372036854775808 <= n) (h1 : n <= 9223372036854775807) :
    Calls Tryz.prog 52 #[.int .i64 n] w fun e w' => e = .returned (.string (itoaB n)) /\ Below w.heap.size w w' := by
  by_cases hn : n = 0
  · subst hn
    go_enter Tryz.func52, Tryz.ntmps52
    go_wp2;go_ret;exact ⟨by show Ending.returned (.string ⟨#[48]⟩) = _; rw [itoaB_zero], Below.refl _ _⟩
  · have hq : (n == 0) = false := beq_eq_false_iff_ne.2 hn
    have HN := hI hn
    have hlen : (tailD n.natAbs).length <= 21 := by
      have h2 := Lib.itoa_length_le n h0 h1;unfold tailD;rw [if_neg (by omega)];unfold Lib.itoa at h2;split at h2
      · rw [List.length_cons] at h2; omega
      · rw [show n.natAbs = n.toNat by omega]; exact h2
    have HLEN := hI hlen;clear hn hlen;go_enter Tryz.func52, Tryz.ntmps52
    go_wp2_with fail
    go_loopw [3, 4, 5] (fun v3 v4 v5 wr => ∃ (s : ByteArray) (k : Int), v3 = .string s /\ v4 = .int .i64 k /\ Hid (-9223372036854775808 <= k /\ k <= 9223372036854775807) /\ Hid (tailD n.natAbs = tailD k.natAbs ++ s.data.toList) /\ Hid (Below w.heap.size w wr)) (fun _ v4 _ _ => (intOf v4).natAbs)
    case atStart => exact ⟨⟨#[]⟩, n, rfl, rfl, ⟨h0, h1⟩, by show _ = _; simp, Below.refl _ _⟩
    case round =>
      obtain ⟨s, k, rfl, rfl, HR, HT, HB⟩ := hrel;obtain ⟨w0, hw0⟩ : ∃ w0, wr = w0 := ⟨_, rfl⟩;rw [hw0] at HB |-;clear hw0;by_cases hk : k = 0
      · subst hk
        have hs : s.data.toList = Lib.decDigits n.natAbs := by
          have h1 := HT.out;unfold tailD at h1;rw [if_neg (by have := HN.out; omega), if_pos (show Int.natAbs 0 = 0 from rfl), List.nil_append] at h1;exact h1.symm
        have hsz : s.size <= 21 := by
          have h1 := HLEN.out;unfold tailD at h1;rw [if_neg (by have := HN.out; omega), <- hs] at h1;have : s.size = s.data.toList.length := (Array.length_toList).symm;omega
        by_cases hneg : n < 0
        · have e1 : (⟨#[45]⟩ : ByteArray) ++ s = itoaB n := by
            unfold itoaB Lib.itoa;rw [if_pos hneg, <- hs];apply ByteArray.ext
            rw [ByteArray.data_append];simp
          have HE := hI e1;have hs1 : ¬ 9223372036854775807 < 1 + s.size := by omega
          clear e1 hs;go_wp2;go_ret;exact ⟨by rw [<- HE.out]; rfl, HB.out⟩
        · have e1 : s = itoaB n := by
            unfold itoaB Lib.itoa;rw [if_neg hneg, show n.toNat = n.natAbs by omega, <- hs]
          have HE := hI e1;clear e1 hs;go_wp2;go_ret;exact ⟨by rw [<- HE.out]; rfl, HB.out⟩
      · have hkq : (k != 0) = true := bne_iff_ne.2 hk
        have hss : s.size <= 21 := by
          have h1 := HLEN.out;rw [HT.out, List.length_append] at h1;have : s.size = s.data.toList.length := (Array.length_toList).symm;omega
        have hR1 := HR.out.1;have hR2 := HR.out.2;obtain ⟨d, hd⟩ : ∃ d, k.natAbs % 10 = d := ⟨_, rfl⟩;have hd10 : d < 10 := by omega
        obtain ⟨q, hq1⟩ : ∃ q, k.tdiv 10 = q := ⟨_, rfl⟩;have hqa : q.natAbs = k.natAbs / 10 := by rw [<- hq1, Int.natAbs_tdiv]; rfl
        have hqk : q.natAbs < k.natAbs := by omega
        have HQK := hI hqk;have HQR : Hid (-9223372036854775808 <= q /\ q <= 9223372036854775807) := by show _ /\ _; omega
        have hcv : ∀ W : World, (convert 94 9 (.slice (some ⟨W.heap.size, 0, none⟩) 1 1)).run Tryz.prog (W.alloc (.cells #[.int .u8 (48 + (d : Int))] 5)) = .ok (.string ⟨#[UInt8.ofNat (48 + d)]⟩) (W.alloc (.cells #[.int .u8 (48 + (d : Int))] 5)) := fun W =>
          run_convert_bytes_back (P := Tryz.prog) _ 94 9 5 ⟨W.heap.size, 0, none⟩ 1 [UInt8.ofNat (48 + d)] Tryz.underlying94 Tryz.underlying5 Tryz.underlying9 fun j hj => by
            obtain rfl : j = 0 := by simpa using hj
            show (W.alloc _).cell? ⟨W.heap.size, 0, none⟩ = _;rw [World.cell?_alloc_new];show some _ = some _;rw [show ([UInt8.ofNat (48 + d)][0] : UInt8).toNat = 48 + d from UInt8.toNat_ofNat_of_lt' (by show _ < 256; omega)];rfl
        have HT2 : Hid (tailD n.natAbs = tailD q.natAbs ++ ((⟨#[UInt8.ofNat (48 + d)]⟩ : ByteArray) ++ s).data.toList) := by
          show _ = _;rw [HT.out, decD_step (u := k.natAbs) (by omega), hd, hqa, ByteArray.data_append];simp
        have hch : UInt8.ofNat (48 + d) = 48 + UInt8.ofNat d := UInt8.ofNat_add 48 d;have hs1 : ¬ 9223372036854775807 < 1 + s.size := by omega
        have hw1 : IntKind.i64.wrap (48 + (d : Int)) = 48 + (d : Int) := IntWalk.i64_in _ (by omega);have hdn : ¬ ((d : Int) < 0) := by omega
        have hwq : wrap64 q = q := by unfold wrap64; have := HQR.out; omega
        have HBA : Hid (Below w.heap.size w (w0.alloc (.cells #[.int .u8 (48 + (d : Int))] 5))) := HB.out.alloc HB.out.size _;by_cases hneg : k < 0
        · have hr1 : k.tmod 10 = -(d : Int) := by
            have e1 : k = -((k.natAbs : Nat) : Int) := by omega
            have e2 : ((k.natAbs : Nat) : Int).tmod 10 = ((k.natAbs % 10 : Nat) : Int) := rfl;rw [e1, Int.neg_tmod, e2, hd]
          have hw2 : IntKind.i64.wrap (d : Int) = (d : Int) := IntWalk.i64_in _ (by omega);clear hd hqa hqk hR1 hR2 hk;by_cases hd0 : d = 0
          · subst hd0
            have hcv0 : ∀ W : World, (convert 94 9 (.slice (some ⟨W.heap.size, 0, none⟩) 1 1)).run Tryz.prog (W.alloc (.cells #[.int .u8 48] 5)) = .ok (.string ⟨#[48]⟩) (W.alloc (.cells #[.int .u8 48] 5)) := hcv;go_wp2;go_roundw
            case rel =>
              exact ⟨_, q, rfl, (by rw [hwq]), HQR.out, (by first | exact HT2.out | (have h := HT2.out; rw [hch] at h; exact h)), HBA.out⟩
            case measure => have := HQK.out; simp [intOf]; omega
          · have hdm : decide (-(d : Int) < 0) = true := decide_eq_true (by omega)
            have hdp : -(d : Int) < 0 := by omega
            have hdp2 : 0 < d := by omega
            go_wp2;go_roundw
            case rel =>
              exact ⟨_, q, rfl, (by rw [hwq]), HQR.out, (by first | exact HT2.out | (have h := HT2.out; rw [hch] at h; exact h)), HBA.out⟩
            case measure => have := HQK.out; simp [intOf]; omega
        · have hr1 : k.tmod 10 = (d : Int) := by rw [Int.tmod_eq_emod_of_nonneg (by omega)]; omega
          have hr2 : k % 10 = (d : Int) := by omega
          have hq2 : k / 10 = q := by rw [<- hq1, Int.tdiv_eq_ediv_of_nonneg (by omega)]
          clear hd hqa hqk hR1 hR2 hk;go_wp2;go_roundw
          case rel =>
            exact ⟨_, q, rfl, (by rw [hwq]), HQR.out, (by first | exact HT2.out | (have h := HT2.out; rw [hch] at h; exact h)), HBA.out⟩
          case measure => have := HQK.out; simp [intOf]; omega
set_option maxHeartbeats 4000000 in
set_option maxRecDepth 100000 in
theorem refNumber_any (A : Option Addr) (n c : Nat) (L : List Pt) (r1 r2 : Int) (w : World) (hP : PtsR w w.heap.size A n L) (hn : n <= 1000000) (hz : (allR L).length <= 1000000) :
  Calls Tryz.prog 16 #[.slice A n c, .agg #[.int .i64 r1, .int .i64 r2]] w fun e w' => e = .returned (.int .i64 (numR (numsF [] (allR L)) (r1, r2))) /\ Below w.heap.size w w' := by
 obtain ⟨W0, hW0⟩ : ∃ W0, w.alloc (.cells #[.int .i64 r1, .int .i64 r2] 24) = W0 := ⟨_, rfl⟩;have HB0 : Hid (Below w.heap.size w W0) := by rw [<- hW0]; exact (Below.refl _ w).alloc (Nat.le_refl _) _
 have hz0 : W0.heap.size = w.heap.size + 1 := by rw [<- hW0]; simp
 have HK0 : Hid (∀ W, Below W0.heap.size W0 W -> W.cell? ⟨w.heap.size, 0, none⟩ = some (.int .i64 r1)) := fun W hW => by
  rw [hW.cell (p := ⟨w.heap.size, 0, none⟩) (by show w.heap.size < _; omega), <- hW0, World.cell?_alloc_new]; rfl
 have HK1 : Hid (∀ W, Below W0.heap.size W0 W -> W.cell? ⟨w.heap.size, 1, none⟩ = some (.int .i64 r2)) := fun W hW => by
  rw [hW.cell (p := ⟨w.heap.size, 1, none⟩) (by show w.heap.size < _; omega), <- hW0, World.cell?_alloc_new]; rfl
 have HP := hI (hP.on HB0.out);have hlen : (numsF [] (allR L)).length <= 1000000 := by have := numsF_len (allR L) []; simp only [List.length_nil] at this; omega
 have HC : Hid (∀ W, Below W0.heap.size W0 W -> Calls Tryz.prog 14 #[.slice A n c] W fun e w' => ∃ v, e = .returned v /\ RfO w' W.heap.size v (numsF [] (allR L)) /\ Below W.heap.size W w') := fun W hW => refNumbers_any A n c L W (HP.out.on hW) hn hz
 obtain ⟨nl, hnl⟩ : ∃ nl, numsF [] (allR L) = nl := ⟨_, rfl⟩;rw [hnl] at HC hlen |-
 have HWR : Hid (IntKind.i64.wrap (idxR nl (r1, r2) + 1) = numR nl (r1, r2)) := by
  have h := numR_range nl (r1, r2);show IntKind.i64.wrap (numR nl (r1, r2)) = _;exact IntWalk.i64_in _ (by omega)
 clear hP HP hnl;go_enter Tryz.func16, Tryz.ntmps16
 go_wp2_with fail
 (try rw [hW0])
 clear hW0;refine wp_region_told [Told.is (.slice A n c), Told.such (fun v W => RfO W W0.heap.size v nl) (fun v W W' h hb => h.on hb), Told.is (.agg #[.int .i64 r1, .int .i64 r2]), Told.is (.int .i64 (idxR nl (r1, r2))), Told.is (.int .i64 (numR nl (r1, r2))), Told.is (.int .i64 (numR nl (r1, r2)))] (by kernel_rfl) (by kernel_rfl) ?_ ?_
 ·refine And.intro (fun w1 vals hB hd K hK => ?_) ?_
  ·clear hd;simp only [putAll, Act.put, pS] at hK |-;refine gwp_none rfl ?_;go_simp;exact hK _ _ rfl bR
  refine And.intro (fun w1 vals hB hd K hK => ?_) ?_
  ·have e0 := tI (hd 0 rfl) rfl;clear hd;simp only [putAll, Act.put, pS] at hK |-;simp only [e0] at hK |-;clear e0;refine gwp_none rfl ?_;go_simp;refine (HC.out w1 hB).mono ?_;rintro e w2 ⟨v, rfl, hO, hb⟩;exact hK _ _ (hO.base hB.size) hb
  refine And.intro (fun w1 vals hB hd K hK => ?_) ?_
  ·clear hd;simp only [putAll, Act.put, pS] at hK |-;refine gwp_none rfl ?_;have hc0 := HK0.out w1 hB;have hc1 := HK1.out w1 hB;go_simp;exact hK _ _ rfl bR
  refine And.intro (fun w1 vals hB hd K hK => ?_) ?_
  ·have p1 := told_at (hd 1 rfl) rfl;simp only [Told.holds] at p1;have e2 := tI (hd 2 rfl) rfl;clear hd;obtain ⟨x1, hx1⟩ : ∃ x, vals 1 = x := ⟨_, rfl⟩;rw [hx1] at p1;simp only [putAll, Act.put, pS] at hK |-;simp only [e2, hx1] at hK |-;clear e2 hx1;refine gwp_none rfl ?_;obtain ⟨A3, c3, rfl, h3a, h3b, hrd⟩ := RfO.form p1;go_simp;refine (index_any A3 nl.length c3 nl r1 r2 w1 hrd (by omega)).mono ?_;rintro e w2 ⟨rfl, hb⟩;exact hK _ _ rfl hb
  refine And.intro (fun w1 vals hB hd K hK => ?_) ?_
  ·have e3 := tI (hd 3 rfl) rfl;clear hd;simp only [putAll, Act.put, pS] at hK |-;simp only [e3] at hK |-;clear e3;refine gwp_none rfl ?_;have hwr : IntKind.i64.wrap (idxR nl (r1, r2) + 1) = numR nl (r1, r2) := HWR.out;go_simp;exact hK _ _ rfl bR
  refine And.intro (fun w1 vals hB hd K hK => ?_) ?_
  ·have e4 := tI (hd 4 rfl) rfl;clear hd;simp only [putAll, Act.put, pS] at hK |-;simp only [e4] at hK |-;clear e4;refine gwp_none rfl ?_;go_simp;exact hK _ _ rfl bR
  exact trivial
 ·intro w1 vals hB hd;have e5 := tI (hd 5 (by decide)) rfl;clear hd;simp only [putAll, Act.put, pS];simp only [e5];clear e5;go_wp2;go_ret;exact ⟨rfl, HB0.out.trans (hB.mono HB0.out.size)⟩
end
section
open Go.RowKit Ru Lay Srt Col
def IncD (D : List Dc) : Prop := ∀ i x y, D[i]? = some x -> D[i + 1]? = some y -> x.d.rid < y.d.rid
theorem IncD.tail {x : Dc} {D : List Dc} (h : IncD (x :: D)) : IncD D := fun i a b ha hb => h (i + 1) a b ha hb
theorem IncD.lt : ∀ {D : List Dc} {x : Dc}, IncD (x :: D) -> ∀ y ∈ D, x.d.rid < y.d.rid
 | [], _, _, y, hy => by cases hy
 | z :: t, x, h, y, hy => by
  have h1 := h 0 x z rfl rfl;rcases List.mem_cons.1 hy with e | hm
  ·rw [e]; exact h1
  ·exact Int.lt_trans h1 (IncD.lt h.tail y hm)
def docG (WD : Int) (r : Rf) (x : Dc) : List ByteArray := if x.d.rid = r.1 then (exL x.T x.l r.2 x.T.length WD).map indB else []
theorem docG_none {D : List Dc} {WD : Int} {r : Rf} (h : ∀ x ∈ D, x.d.rid ≠ r.1) : D.flatMap (docG WD r) = [] := by
 rw [List.flatMap_eq_nil_iff];intro x hx;unfold docG;rw [if_neg (h x hx)]
theorem docG_all : ∀ {D : List Dc} (h : IncD D) (WD : Int) (r : Rf), D.flatMap (docG WD r) = (exC WD (docF D r.1) r.2).map indB
 | [], _, _, _ => rfl
 | x :: D, h, WD, r => by
  rw [List.flatMap_cons];by_cases e : x.d.rid = r.1
  ·have h1 : docF (x :: D) r.1 = some x := by unfold docF; rw [List.find?_cons_of_pos (by simpa using e)]
   rw [docG_none (fun y hy => by have := h.lt y hy; omega), h1, List.append_nil];unfold docG;rw [if_pos e];rfl
  ·have h1 : docF (x :: D) r.1 = docF D r.1 := by unfold docF; rw [List.find?_cons_of_neg (by simpa using e)]
   rw [h1, <- docG_all h.tail WD r];unfold docG;rw [if_neg e];rfl
theorem docG_next {D : List Dc} {WD : Int} {r : Rf} {j : Nat} {x : Dc} (h : D[j]? = some x) : (D.take (j + 1)).flatMap (docG WD r) = (D.take j).flatMap (docG WD r) ++ docG WD r x := by
 rw [List.take_add_one, h, List.flatMap_append];simp
theorem docG_len {D : List Dc} (h : ∀ x ∈ D, x.l.length <= 20) (WD : Int) (r : Rf) : (D.flatMap (docG WD r)).length <= D.length * 120 := by
 induction D with
 | nil => simp
 | cons x t ih =>
  rw [List.flatMap_cons, List.length_append, List.length_cons, Nat.succ_mul];have h1 := ih fun y hy => h y (List.mem_cons_of_mem _ hy)
  have h2 : (docG WD r x).length <= 120 := by
   unfold docG;split
   ·rw [List.length_map]; exact exL_len (h x List.mem_cons_self)
   ·exact Nat.zero_le _
  omega
end
end Go.Proofs.YthcabnfcgjnlnaaGreatDoor
