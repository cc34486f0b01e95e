import Derived.Test.YthcabnfcgjnlnaaGreatDoorLi09
set_option linter.unusedVariables false
set_option linter.unusedSimpArgs false
namespace Go.Proofs.YthcabnfcgjnlnaaGreatDoor
section
open Go.RowKit Ru Lay
attribute [local go_sem ↓] Go.wp_at_zero Go.wp_at_succ
theorem one_strH (l : List ByteArray) : ∀ u ∈ l.map Value.string, u.oneCell' = true := fun u hu => by
 obtain ⟨s, _, rfl⟩ := List.mem_map.1 hu;rfl
theorem gloss_one {T : List Ti} {l : List Nt} (h : DocOk T l) (m : Int) : (kidsL T.length l m (roleT T 4)).length <= 1 := by
  unfold kidsL;have hp := (sortN_stable (sibs T.length l m (roleT T 4)) _ (Nat.le_refl _)).perm.length_eq;rw [List.take_length] at hp;rw [List.length_map, hp];rcases roleT_some T 4 with e | ⟨h0, h1, hr, _⟩
  · have : sibs T.length l m (roleT T 4) = [] := by
      unfold sibs;rw [List.filter_eq_nil_iff];intro x _;simp
      omega
    rw [this];exact Nat.zero_le _
  · have ht := h.at_ h0 h1
    exact docOk_label h h0 h1 (by have := ht.2 (by rw [hr]; decide); rw [this, hr]; decide) m
set_option maxHeartbeats 8000000 in
set_option maxRecDepth 100000 in
theorem refShown_any (d : Dv) (T : List Ti) (l : List Nt) (id : Int) (w : World) (hT : TiersR w w.heap.size d.ta d.tn T) (hl : NotesR w w.heap.size d.na d.nn l) (hok : DocOk T l) (hn : d.nn < 20) (htn : d.tn <= 1000000) :
  Calls Tryz.prog 41 #[docV d, .int .i64 id] w fun e w' => ∃ v u, e = .returned (.tuple #[v, u]) /\ OwnS w' w.heap.size v (formsL T l id) /\ OwnS w' w.heap.size u (glossesL T l id) /\ Below w.heap.size w w' := by
 have hNl := hl.len;have HRD := hI fun (W : World) (hW : Below w.heap.size w W) => ready32_any d T W (hT.on hW) htn
 have HIW := hI fun (W : World) (hW : Below w.heap.size w W) => isWord_any d T l id W (hT.on hW) (hl.on hW) (by omega) htn
 have HRO := hI fun (W : World) (hW : Below w.heap.size w W) (r : Int) => role32_any d T r W (hT.on hW) htn
 have HTE := hI fun (W : World) (hW : Below w.heap.size w W) (i : Int) => text32_any d l i W (hl.on hW) (by omega)
 have HKD := hI fun (W : World) (hW : Below w.heap.size w W) (i t : Int) (ht : 0 <= t /\ t < (T.length : Int)) => refKids_any d T l i t W hok.light (hT.on hW) (hl.on hW) hn ht
 have HKF := hI fun (i t : Int) (ht : 0 <= t /\ t < (T.length : Int)) => kidF_kids hok.light i t ht
 have HON := hI (gloss_one hok);have hkl : ∀ i t, (kidsL T.length l i t).length <= 20 := fun i t => by have := kidsL_len (tn := T.length) (l := l) (id := i) (tier := t); omega
 have hrng : readyB T = true -> (0 <= roleT T 3 /\ roleT T 3 < (T.length : Int)) /\ (0 <= roleT T 4 /\ roleT T 4 < (T.length : Int)) := fun h => by
  unfold readyB at h;rw [Bool.and_eq_true, Bool.and_eq_true, decide_eq_true_eq, decide_eq_true_eq, decide_eq_true_eq] at h;refine ⟨⟨h.2.1, ?_⟩, h.2.2, ?_⟩
  ·rcases roleT_some T 3 with e | e <;> omega
  ·rcases roleT_some T 4 with e | e <;> omega
 have hF1 : (wordB T l id && readyB T) = true -> formsL T l id = (kidsL T.length l id (roleT T 3)).map (textN l) /\ glossesL T l id = (kidsL T.length l id (roleT T 3)).map (glossT T l) := fun h => by
  unfold formsL glossesL shownB;rw [if_pos h, if_pos h];exact ⟨rfl, rfl⟩
 have hF0 : (wordB T l id && readyB T) = false -> formsL T l id = [] /\ glossesL T l id = [] := fun h => by
  unfold formsL glossesL shownB;rw [h];exact ⟨rfl, rfl⟩
 have HGT : Hid (∀ m, glossT T l m = (kidsL T.length l m (roleT T 4)).foldl (fun _ k => textN l k) ⟨#[]⟩) := fun _ => rfl
 clear hT hl hok hNl;unfold docV at HRD HIW HRO HTE HKD;unfold docV;obtain ⟨rid, name, len, day, sa, sn, sc, ta, tn, tc, na, nn, nc⟩ := d;simp only at HRD HIW HRO HTE HKD hn htn |-;obtain ⟨fm, hfm⟩ : ∃ x, formsL T l id = x := ⟨_, rfl⟩;obtain ⟨gm, hgm⟩ : ∃ x, glossesL T l id = x := ⟨_, rfl⟩;obtain ⟨bw, hbw⟩ : ∃ a, wordB T l id = a := ⟨_, rfl⟩;obtain ⟨br, hbr⟩ : ∃ a, readyB T = a := ⟨_, rfl⟩;rw [hfm, hgm, hbw, hbr] at hF1 hF0;rw [hfm, hgm];rw [hbw] at HIW;rw [hbr] at HRD hrng;have HF0 := hI hF0;have HF1 := hI hF1;have HRNG := hI hrng;have HKL := hI hkl;clear hF0 hF1 hrng hkl hfm hgm hbw hbr;obtain ⟨W0, hW0, hz0, hB0, hK0⟩ := doc_cells w rid name len day sa ta na sn sc tn tc nn nc;have HB := hI hB0;have HK := hI hK0;have HBW : Hid (∀ W, Below W0.heap.size W0 W -> Below w.heap.size w W) := fun W hW => HB.out.trans (hW.mono HB.out.size)
 clear hB0 hK0;have HRR := hI (HRD.out W0 HB.out);go_enter Tryz.func41, Tryz.ntmps41
 go_upto_region 2 with fail
 (try rw [hW0])
 clear hW0;obtain ⟨k0, k1, k2, k3, k4, k5, k6⟩ := range7 (HK.out W0 (Below.refl _ _));go_wp2_with fail
 refine HRR.out.mono ?_;rintro e w1 ⟨rfl, hb1⟩;have HB1 := hI hb1;clear hb1 k0 k1 k2 k3 k4 k5 k6 HRR HRD
 cases br with
 | false =>
  go_wp2;go_ret2;exact ⟨_, _, rfl, by rw [(HF0.out (by simp)).1]; exact OwnS.nil _ _, by rw [(HF0.out (by simp)).2]; exact OwnS.nil _ _, HBW.out _ HB1.out⟩
 | true =>
  obtain ⟨k0, k1, k2, k3, k4, k5, k6⟩ := range7 (HK.out w1 HB1.out);have HWW := hI (HIW.out w1 (HBW.out _ HB1.out));go_wp2_with fail
  refine HWW.out.mono ?_;rintro e w2 ⟨rfl, hb2⟩;have HB2 := hI (HB1.out.trans (hb2.mono HB1.out.size));clear hb2 k0 k1 k2 k3 k4 k5 k6 HWW HIW
  cases bw with
  | false =>
   go_wp2;go_ret2;exact ⟨_, _, rfl, by rw [(HF0.out (by simp)).1]; exact OwnS.nil _ _, by rw [(HF0.out (by simp)).2]; exact OwnS.nil _ _, HBW.out _ HB2.out⟩
  | true =>
   obtain ⟨hr3, hr4⟩ : (0 <= roleT T 3 /\ roleT T 3 < (T.length : Int)) /\ (0 <= roleT T 4 /\ roleT T 4 < (T.length : Int)) := by first | exact HRNG.out rfl | exact HRNG.out trivial | exact HRNG.out
   have HF : Hid (fm = (kidsL T.length l id (roleT T 3)).map (textN l) /\ gm = (kidsL T.length l id (roleT T 3)).map (glossT T l)) := by first | exact HF1.out rfl | exact HF1.out trivial | exact HF1.out (by simp)
   have HD : Hid (∀ W, Below W0.heap.size W0 W -> W.rangeAt w.heap.size 0 [.int .i64 rid, .string name, .int .i64 len, .int .i64 day, .slice sa sn sc, .slice ta tn tc, .slice na nn nc]) := HK;obtain ⟨a3, h3⟩ : ∃ a, roleT T 3 = a := ⟨_, rfl⟩;obtain ⟨a4, h4⟩ : ∃ a, roleT T 4 = a := ⟨_, rfl⟩;have HR3 : Hid (∀ W, Below w2.heap.size w2 W -> Calls Tryz.prog 68 #[.agg #[.int .i64 rid, .string name, .int .i64 len, .int .i64 day, .slice sa sn sc, .slice ta tn tc, .slice na nn nc], .int .i64 3] W fun e w' => e = .returned (.int .i64 a3) /\ Below W.heap.size W w') := fun W hW => by rw [<- h3]; exact HRO.out W (HBW.out _ (HB2.out.trans (hW.mono HB2.out.size))) 3
   have HRQ : Hid (∀ W, Below w.heap.size w W -> Calls Tryz.prog 68 #[.agg #[.int .i64 rid, .string name, .int .i64 len, .int .i64 day, .slice sa sn sc, .slice ta tn tc, .slice na nn nc], .int .i64 4] W fun e w' => e = .returned (.int .i64 a4) /\ Below W.heap.size W w') := fun W hW => by rw [<- h4]; exact HRO.out W hW 4
   have hkq := HKF.out id a3 (by rw [<- h3]; exact hr3);have HKD4 := hI fun (W : World) (hW : Below w2.heap.size w2 W) => HKD.out W (HBW.out _ (HB2.out.trans (hW.mono HB2.out.size))) id a3 (by rw [<- h3]; exact hr3)
   have HKDQ := hI fun (W : World) (hW : Below w.heap.size w W) (i : Int) => HKD.out W hW i a4 (by rw [<- h4]; exact hr4)
   have HKFQ := hI fun (i : Int) => HKF.out i a4 (by rw [<- h4]; exact hr4)
   rw [h3] at HF;rw [h4] at HGT HON;obtain ⟨ks, hks⟩ : ∃ x, kidsL T.length l id a3 = x := ⟨_, rfl⟩;have hk20 := HKL.out id a3;rw [hks] at HF hkq hk20;rw [hkq] at HKD4;have HD4 : Hid (∀ W, Below w2.heap.size w2 W -> W.rangeAt w.heap.size 0 [.int .i64 rid, .string name, .int .i64 len, .int .i64 day, .slice sa sn sc, .slice ta tn tc, .slice na nn nc]) := fun W hW => HD.out W (HB2.out.trans (hW.mono HB2.out.size))
   clear hr3 hr4 h3 h4 hkq hks HF1 HF0 HRNG HRO HKD HKF;go_upto_region 4 with fail
   refine wp_region_told [Told.is (.agg #[.int .i64 rid, .string name, .int .i64 len, .int .i64 day, .slice sa sn sc, .slice ta tn tc, .slice na nn nc]), Told.is (.int .i64 id), Told.is (.agg #[.int .i64 rid, .string name, .int .i64 len, .int .i64 day, .slice sa sn sc, .slice ta tn tc, .slice na nn nc]), Told.is (.int .i64 a3), Told.such (fun v W => OwnI W w2.heap.size v ks) (fun v W W' h hb => h.on hb), Told.such (fun v W => OwnI W w2.heap.size v ks) (fun v W W' h hb => h.on hb)] (by kernel_rfl) (by kernel_rfl) ?_ ?_
   ·refine And.intro (fun w1 vals hB hd K hK => ?_) ?_
    ·clear hd;simp only [putAll, Act.put, pS] at hK |-;refine gwp_none rfl ?_;refine wp_load_mid 38 (.tmp 2) rfl w.heap.size 0 rfl [.int .i64 rid, .string name, .int .i64 len, .int .i64 day, .slice sa sn sc, .slice ta tn tc, .slice na nn nc] _ (HD4.out w1 hB) Tryz.underlying38 rfl (by kernel_rfl) ?_;simp only [Act.put, pS];exact hK _ _ rfl bR
    refine And.intro (fun w1 vals hB hd K hK => ?_) ?_
    ·clear hd;simp only [putAll, Act.put, pS] at hK |-;refine gwp_none rfl ?_;go_simp;exact hK _ _ rfl bR
    refine And.intro (fun w1 vals hB hd K hK => ?_) ?_
    ·clear hd;simp only [putAll, Act.put, pS] at hK |-;refine gwp_none rfl ?_;refine wp_load_mid 38 (.tmp 2) rfl w.heap.size 0 rfl [.int .i64 rid, .string name, .int .i64 len, .int .i64 day, .slice sa sn sc, .slice ta tn tc, .slice na nn nc] _ (HD4.out w1 hB) Tryz.underlying38 rfl (by kernel_rfl) ?_;simp only [Act.put, pS];exact hK _ _ rfl bR
    refine And.intro (fun w1 vals hB hd K hK => ?_) ?_
    ·have e2 := tI (hd 2 rfl) rfl;clear hd;simp only [putAll, Act.put, pS] at hK |-;simp only [e2] at hK |-;clear e2;refine gwp_none rfl ?_;go_simp;refine (HR3.out w1 hB).mono ?_;rintro e w4 ⟨rfl, hb4⟩;exact hK _ _ rfl hb4
    refine And.intro (fun w1 vals hB hd K hK => ?_) ?_
    ·have e0 := tI (hd 0 rfl) rfl;have e1 := tI (hd 1 rfl) rfl;have e3 := tI (hd 3 rfl) rfl;clear hd;simp only [putAll, Act.put, pS] at hK |-;simp only [e0, e1, e3] at hK |-;clear e0 e1 e3;refine gwp_none rfl ?_;go_simp;refine (HKD4.out w1 hB).mono ?_;rintro e w4 ⟨v, rfl, hO, hb4⟩;exact hK _ _ (own_base hO hB.size) hb4
    refine And.intro (fun w1 vals hB hd K hK => ?_) ?_
    ·have p4 := told_at (hd 4 rfl) rfl;simp only [Told.holds] at p4;clear hd;obtain ⟨x4, hx4⟩ : ∃ x, vals 4 = x := ⟨_, rfl⟩;rw [hx4] at p4;simp only [putAll, Act.put, pS] at hK |-;simp only [hx4] at hK |-;clear hx4;refine gwp_none rfl ?_;go_simp;exact hK _ _ p4 bR
    exact trivial
   ·intro w1 vals hB hd;have p5 := told_at (hd 5 (by decide)) rfl;simp only [Told.holds] at p5;obtain ⟨x5, hx5⟩ : ∃ x, vals 5 = x := ⟨_, rfl⟩;rw [hx5] at p5;clear hd;simp only [putAll, Act.put, pS];simp only [hx5];clear hx5;obtain ⟨A8, c8, hv8, _, _, h8r⟩ := OwnI.form p5;have HIR := hI h8r;have HB3 := hI (HB2.out.trans (hB.mono HB2.out.size));subst hv8;clear hB p5 h8r HD4 HR3 HKD4;obtain ⟨w3, hw3⟩ : ∃ w3, w1 = w3 := ⟨_, rfl⟩;rw [hw3] at HIR HB3 |-;clear hw3;go_wp2_with fail
    go_loopw [6, 7, 9, 10] (fun v6 v7 v9 v10 wr => ∃ i : Nat, i <= ks.length /\ v9 = .int .i64 i /\ Hid (OwnS wr w3.heap.size v6 ((ks.take i).map (textN l))) /\ Hid (OwnS wr w3.heap.size v7 ((ks.take i).map (glossT T l))) /\ Hid (Apart v6 v7) /\ Hid (Below w3.heap.size w3 wr)) (fun _ _ v9 _ _ => ks.length - (intOf v9).toNat)
    case atStart => exact ⟨0, Nat.zero_le _, rfl, OwnS.nil _ _, OwnS.nil _ _, Apart.nil_left _, Below.refl _ _⟩
    case round =>
     obtain ⟨i, hi, rfl, HO6, HO7, HAP, HB4⟩ := hrel;obtain ⟨w8, hw8⟩ : ∃ w8, wr = w8 := ⟨_, rfl⟩;rw [hw8] at HO6 HO7 HB4 |-;clear hw8;have hz38 := HB4.out.size;by_cases hlt : i < ks.length
     ·have hiz : (i : Int) < (ks.length : Int) := by omega
      have hiA : (0 : Int) <= (i : Int) := by omega
      obtain ⟨bd, x, hA, hbb, hidx, hc⟩ := HIR.out.at_ hlt;subst hA;have HLT := hI hlt;have HN6 := hI (map_next (textN l) hidx);have HN7 := hI (map_next (glossT T l) hidx);have hl6 : ((ks.take i).map (textN l)).length <= 20 := by rw [List.length_map, List.length_take]; omega
      have hl7 : ((ks.take i).map (glossT T l)).length <= 20 := by rw [List.length_map, List.length_take]; omega
      have HCB : Hid (∀ W, Below w3.heap.size w3 W -> W.cell? (bd.add i) = some (.int .i64 x)) := fun W hW => (hW.cell (by rw [block_of_add]; exact hbb)).trans hc
      have HCX : Hid (∀ W, Below w8.heap.size w8 W -> W.cell? (bd.add i) = some (.int .i64 x)) := fun W hW => HCB.out W (HB4.out.trans (hW.mono hz38))
      have HB08 : Hid (Below W0.heap.size W0 w8) := HB3.out.trans (HB4.out.mono HB3.out.size);have HD8 : Hid (∀ W, Below w8.heap.size w8 W -> W.rangeAt w.heap.size 0 [.int .i64 rid, .string name, .int .i64 len, .int .i64 day, .slice sa sn sc, .slice ta tn tc, .slice na nn nc]) := fun W hW => HD.out W (HB08.out.trans (hW.mono HB08.out.size))
      have HTX8 := hI fun (W : World) (hW : Below w8.heap.size w8 W) => HTE.out W (HBW.out _ (HB08.out.trans (hW.mono HB08.out.size))) x
      have HGX := hI (HGT.out x);have hgl := HON.out x;obtain ⟨tx, htx⟩ : ∃ z, textN l x = z := ⟨_, rfl⟩;rw [htx] at HN6 HTX8;obtain ⟨fs, hfs⟩ : ∃ x, (ks.take i).map (textN l) = x := ⟨_, rfl⟩;obtain ⟨gs, hgs⟩ : ∃ x, (ks.take i).map (glossT T l) = x := ⟨_, rfl⟩;rw [hfs] at HO6 HN6 hl6;rw [hgs] at HO7 HN7 hl7;have HKDX := hI fun (W : World) (hW : Below w.heap.size w W) => HKDQ.out W hW x
      have hkx := HKFQ.out x;obtain ⟨hs, hhs⟩ : ∃ z, kidsL T.length l x a4 = z := ⟨_, rfl⟩;rw [hhs] at HGX hgl hkx;rw [hkx] at HKDX;clear hc hidx hfs hgs htx hkx hhs hbb;go_upto_region 8 with fail
      refine wp_region_toldT 8 [Told.is (u6), Told.is (.agg #[.int .i64 rid, .string name, .int .i64 len, .int .i64 day, .slice sa sn sc, .slice ta tn tc, .slice na nn nc]), Told.is (.slice (some bd) ks.length c8), Told.is (.int .i64 (i : Int)), Told.is (.pointer (some (bd.add i))), Told.is (.int .i64 x), Told.is (.string tx), Told.such (fun v W => ∃ A, v = .slice A 1 1 /\ SR W W.heap.size A 1 [tx]) (fun v W W' ⟨A, h1, h2⟩ hb => ⟨A, h1, Reads.on h2 hb⟩)] (by kernel_rfl) (by kernel_rfl) ?_ ?_
      ·simp only [List.take_succ_cons, List.take_zero];refine And.intro (fun w1 vals hB hd K hK => ?_) ?_
       ·clear hd;simp only [putAll, Act.put, pS] at hK |-;refine gwp_none rfl ?_;go_simp;exact hK _ _ rfl bR
       refine And.intro (fun w1 vals hB hd K hK => ?_) ?_
       ·clear hd;simp only [putAll, Act.put, pS] at hK |-;refine gwp_none rfl ?_;refine wp_load_mid 38 (.tmp 2) rfl w.heap.size 0 rfl [.int .i64 rid, .string name, .int .i64 len, .int .i64 day, .slice sa sn sc, .slice ta tn tc, .slice na nn nc] _ (HD8.out w1 hB) Tryz.underlying38 rfl (by kernel_rfl) ?_;simp only [Act.put, pS];exact hK _ _ rfl bR
       refine And.intro (fun w1 vals hB hd K hK => ?_) ?_
       ·clear hd;simp only [putAll, Act.put, pS] at hK |-;refine gwp_none rfl ?_;go_simp;exact hK _ _ rfl bR
       refine And.intro (fun w1 vals hB hd K hK => ?_) ?_
       ·clear hd;simp only [putAll, Act.put, pS] at hK |-;refine gwp_none rfl ?_;go_simp;exact hK _ _ rfl bR
       refine And.intro (fun w1 vals hB hd K hK => ?_) ?_
       ·have e2 := tI (hd 2 rfl) rfl;have e3 := tI (hd 3 rfl) rfl;clear hd;simp only [putAll, Act.put, pS] at hK |-;simp only [e2, e3] at hK |-;clear e2 e3;refine gwp_none rfl ?_;go_simp;exact hK _ _ rfl bR
       refine And.intro (fun w1 vals hB hd K hK => ?_) ?_
       ·have e4 := tI (hd 4 rfl) rfl;clear hd;simp only [putAll, Act.put, pS] at hK |-;simp only [e4] at hK |-;clear e4;refine gwp_none rfl ?_;have hc := HCX.out w1 hB;go_simp;exact hK _ _ rfl bR
       refine And.intro (fun w1 vals hB hd K hK => ?_) ?_
       ·have e1 := tI (hd 1 rfl) rfl;have e5 := tI (hd 5 rfl) rfl;clear hd;simp only [putAll, Act.put, pS] at hK |-;simp only [e1, e5] at hK |-;clear e1 e5;refine gwp_none rfl ?_;go_simp;refine (HTX8.out w1 hB).mono ?_;rintro e w4 ⟨rfl, hb4⟩;exact hK _ _ rfl hb4
       refine And.intro (fun w1 vals hB hd K hK => ?_) ?_
       ·have e6 := tI (hd 6 rfl) rfl;clear hd;simp only [putAll, Act.put, pS] at hK |-;simp only [e6] at hK |-;clear e6;refine gwp_none rfl ?_;go_simp;exact hK _ _ ⟨_, rfl, sr_new w1 9 [tx] _ rfl 1 rfl⟩ (bR.alloc (Nat.le_refl _) _)
       exact trivial
      ·intro w1 vals hB hd;have e0 := tI (hd 0 (by decide) (by decide)) rfl;have p7 := told_at (hd 7 (by decide) (by decide)) rfl;simp only [Told.holds] at p7;obtain ⟨x7, hx7⟩ : ∃ x, vals 7 = x := ⟨_, rfl⟩;rw [hx7] at p7;clear hd;simp only [List.take_succ_cons, List.take_zero, List.drop_succ_cons, List.drop_zero];simp only [putAll, Act.put, pS];simp only [e0, hx7];clear e0 hx7;obtain ⟨A7, rfl, hs7⟩ := p7;have HS7 := hI hs7;have HO6a := hI (HO6.out.on hB);have HO7a := hI (HO7.out.on hB);have HB5 : Hid (Below w3.heap.size w3 w1) := HB4.out.trans (hB.mono hz38);have hz5 := HB5.out.size;have HAPs := hI HAP.out.symm;clear hs7 hB HTX8 HO6 HO7 HD8 HCX HAP;go_upto_region 9 with (at_builtin; refine wpList_app rfl (.tmp 33) (.tmp 40) 45 rfl w3.heap.size 9 16 (.string .empty) info_string rfl Tryz.underlying45 rfl HO6a.out (A := A7) (m := 1) (c := 1) rfl HS7.out (one_strH _) (by omega) (by omega) hz5 ?_; intro v6 w9 hown6 hg6 hat6; have HK7 := hI (own_kept HO7a.out hg6 HAPs.out hat6); have HO6b : Hid (OwnS w9 w3.heap.size v6 (fs ++ [tx])) := own_s (n := 0) hown6; have HB9 : Hid (Below w3.heap.size w3 w9) := below_app HB5.out HO6a.out hg6 (Nat.le_refl _) hz5; clear hown6 hg6 hat6 HO6a HO7a HB5)
       have HB09 : Hid (Below W0.heap.size W0 w9) := HB3.out.trans (HB9.out.mono HB3.out.size);have HD9 : Hid (∀ W, Below w9.heap.size w9 W -> W.rangeAt w.heap.size 0 [.int .i64 rid, .string name, .int .i64 len, .int .i64 day, .slice sa sn sc, .slice ta tn tc, .slice na nn nc]) := fun W hW => HD.out W (HB09.out.trans (hW.mono HB09.out.size))
       have HCX9 : Hid (∀ W, Below w9.heap.size w9 W -> W.cell? (bd.add i) = some (.int .i64 x)) := fun W hW => HCB.out W (HB9.out.trans (hW.mono HB9.out.size))
       have HR9 := hI fun (W : World) (hW : Below w9.heap.size w9 W) => HRQ.out W (HBW.out _ (HB09.out.trans (hW.mono HB09.out.size)))
       have HKD9 := hI fun (W : World) (hW : Below w9.heap.size w9 W) => HKDX.out W (HBW.out _ (HB09.out.trans (hW.mono HB09.out.size)))
       refine wp_region_told [Told.is (.agg #[.int .i64 rid, .string name, .int .i64 len, .int .i64 day, .slice sa sn sc, .slice ta tn tc, .slice na nn nc]), Told.is (.slice (some bd) ks.length c8), Told.is (.int .i64 (i : Int)), Told.is (.pointer (some (bd.add i))), Told.is (.int .i64 x), Told.is (.agg #[.int .i64 rid, .string name, .int .i64 len, .int .i64 day, .slice sa sn sc, .slice ta tn tc, .slice na nn nc]), Told.is (.int .i64 a4), Told.such (fun v W => OwnI W w9.heap.size v hs) (fun v W W' h hb => h.on hb), Told.such (fun v W => OwnI W w9.heap.size v hs) (fun v W W' h hb => h.on hb)] (by kernel_rfl) (by kernel_rfl) ?_ ?_
       ·refine And.intro (fun w1 vals hB hd K hK => ?_) ?_
        ·clear hd;simp only [putAll, Act.put, pS] at hK |-;refine gwp_none rfl ?_;refine wp_load_mid 38 (.tmp 2) rfl w.heap.size 0 rfl [.int .i64 rid, .string name, .int .i64 len, .int .i64 day, .slice sa sn sc, .slice ta tn tc, .slice na nn nc] _ (HD9.out w1 hB) Tryz.underlying38 rfl (by kernel_rfl) ?_;simp only [Act.put, pS];exact hK _ _ rfl bR
        refine And.intro (fun w1 vals hB hd K hK => ?_) ?_
        ·clear hd;simp only [putAll, Act.put, pS] at hK |-;refine gwp_none rfl ?_;go_simp;exact hK _ _ rfl bR
        refine And.intro (fun w1 vals hB hd K hK => ?_) ?_
        ·clear hd;simp only [putAll, Act.put, pS] at hK |-;refine gwp_none rfl ?_;go_simp;exact hK _ _ rfl bR
        refine And.intro (fun w1 vals hB hd K hK => ?_) ?_
        ·have e1 := tI (hd 1 rfl) rfl;have e2 := tI (hd 2 rfl) rfl;clear hd;simp only [putAll, Act.put, pS] at hK |-;simp only [e1, e2] at hK |-;clear e1 e2;refine gwp_none rfl ?_;go_simp;exact hK _ _ rfl bR
        refine And.intro (fun w1 vals hB hd K hK => ?_) ?_
        ·have e3 := tI (hd 3 rfl) rfl;clear hd;simp only [putAll, Act.put, pS] at hK |-;simp only [e3] at hK |-;clear e3;refine gwp_none rfl ?_;have hc := HCX9.out w1 hB;go_simp;exact hK _ _ rfl bR
        refine And.intro (fun w1 vals hB hd K hK => ?_) ?_
        ·clear hd;simp only [putAll, Act.put, pS] at hK |-;refine gwp_none rfl ?_;refine wp_load_mid 38 (.tmp 2) rfl w.heap.size 0 rfl [.int .i64 rid, .string name, .int .i64 len, .int .i64 day, .slice sa sn sc, .slice ta tn tc, .slice na nn nc] _ (HD9.out w1 hB) Tryz.underlying38 rfl (by kernel_rfl) ?_;simp only [Act.put, pS];exact hK _ _ rfl bR
        refine And.intro (fun w1 vals hB hd K hK => ?_) ?_
        ·have e5 := tI (hd 5 rfl) rfl;clear hd;simp only [putAll, Act.put, pS] at hK |-;simp only [e5] at hK |-;clear e5;refine gwp_none rfl ?_;go_simp;refine (HR9.out w1 hB).mono ?_;rintro e w4 ⟨rfl, hb4⟩;exact hK _ _ rfl hb4
        refine And.intro (fun w1 vals hB hd K hK => ?_) ?_
        ·have e0 := tI (hd 0 rfl) rfl;have e4 := tI (hd 4 rfl) rfl;have e6 := tI (hd 6 rfl) rfl;clear hd;simp only [putAll, Act.put, pS] at hK |-;simp only [e0, e4, e6] at hK |-;clear e0 e4 e6;refine gwp_none rfl ?_;go_simp;refine (HKD9.out w1 hB).mono ?_;rintro e w4 ⟨v, rfl, hO, hb4⟩;exact hK _ _ (own_base hO hB.size) hb4
        refine And.intro (fun w1 vals hB hd K hK => ?_) ?_
        ·have p7 := told_at (hd 7 rfl) rfl;simp only [Told.holds] at p7;clear hd;obtain ⟨x7, hx7⟩ : ∃ x, vals 7 = x := ⟨_, rfl⟩;rw [hx7] at p7;simp only [putAll, Act.put, pS] at hK |-;simp only [hx7] at hK |-;clear hx7;refine gwp_none rfl ?_;go_simp;exact hK _ _ p7 bR
        exact trivial
       ·intro w1 vals hB hd;have p8 := told_at (hd 8 (by decide)) rfl;simp only [Told.holds] at p8;obtain ⟨x8, hx8⟩ : ∃ x, vals 8 = x := ⟨_, rfl⟩;rw [hx8] at p8;clear hd;simp only [putAll, Act.put, pS];simp only [hx8];clear hx8;obtain ⟨A10, c10, hv10, _, _, h10r⟩ := OwnI.form p8;subst hv10;have HIK := hI h10r;have HB10 : Hid (Below w3.heap.size w3 w1) := HB9.out.trans (hB.mono HB9.out.size);have HO6c := hI (HO6b.out.on hB);have HO7c := hI (own_below HK7.out.1 hB);have HAPc := hI HK7.out.2;have hz10 := HB10.out.size;clear p8 h10r hB HD9 HCX9 HR9 HKD9 HO6b HK7 HB9 HB09;obtain ⟨wa, hwa⟩ : ∃ wa, w1 = wa := ⟨_, rfl⟩;rw [hwa] at HIK HB10 HO6c HO7c hz10 |-;clear hwa;have HB010 : Hid (Below W0.heap.size W0 wa) := HB3.out.trans (HB10.out.mono HB3.out.size);match hs, hgl with
        | [], _ =>
         have HN7e : Hid ((ks.take (i + 1)).map (glossT T l) = gs ++ [⟨#[]⟩]) := by show _ = _; rw [HN7.out, HGX.out]; rfl
         go_wp2_with (at_builtin; refine wpList_app1 rfl (.tmp 61) (.tmp 62) 45 rfl w3.heap.size 9 16 (.string .empty) info_string rfl Tryz.underlying45 rfl HO7c.out rfl rfl (by omega) (by omega) hz10 ?_; rintro v7 wb hown7 hb7 hs7 hk7)
         have HK6 := hI (hk7 _ _ _ _ _ _ HO6c.out HAPc.out.symm);have HO7d : Hid (OwnS wb w3.heap.size v7 (gs ++ [⟨#[]⟩])) := own_s (n := 0) hown7;have HO6d : Hid (OwnS wb w3.heap.size v6 (fs ++ [tx])) := HK6.out.1;have HBE : Hid (Below w3.heap.size w3 wb) := HB10.out.trans hb7;rw [<- HN6.out] at HO6d;rw [<- HN7e.out] at HO7d;clear hown7 hb7 hk7;go_wp2;go_roundw
         case rel =>
          first
           | exact ⟨i + 1, HLT.out, by go_num, HO6d, HO7d, HK6.out.2, HBE⟩
           | ((repeat apply Exists.intro); refine ⟨?_, rfl⟩; exact ⟨i + 1, HLT.out, by go_num, HO6d, HO7d, HK6.out.2, HBE⟩)
         case measure => have := HLT.out; simp [intOf]; omega
        | [k], _ =>
         obtain ⟨be, k', hbe, hbb2, hidx2, hc2⟩ := HIK.out.at_ (k := 0) (by show 0 < 1; omega);subst hbe
         cases hidx2
         have HCK : Hid (∀ W, Below wa.heap.size wa W -> W.cell? be = some (.int .i64 k)) := fun W hW => by
          have hbe0 : be.add 0 = be := by rw [Addr.add, if_pos rfl]
          rw [hbe0] at hc2;exact (hW.cell hbb2).trans hc2
         have HD11 : Hid (∀ W, Below wa.heap.size wa W -> W.rangeAt w.heap.size 0 [.int .i64 rid, .string name, .int .i64 len, .int .i64 day, .slice sa sn sc, .slice ta tn tc, .slice na nn nc]) := fun W hW => HD.out W (HB010.out.trans (hW.mono HB010.out.size))
         have HTX11 := hI fun (W : World) (hW : Below wa.heap.size wa W) => HTE.out W (HBW.out _ (HB010.out.trans (hW.mono HB010.out.size))) k
         have HN7e : Hid ((ks.take (i + 1)).map (glossT T l) = gs ++ [textN l k]) := by show _ = _; rw [HN7.out, HGX.out]; rfl
         obtain ⟨tk, htk⟩ : ∃ z, textN l k = z := ⟨_, rfl⟩;rw [htk] at HTX11 HN7e;have hl1 : (([k] : List Int).length : Int) = 1 := rfl;clear htk hc2 hbb2;go_upto_region 11 with fail
         refine wp_region_toldT 7 [Told.is (u7), Told.is (.agg #[.int .i64 rid, .string name, .int .i64 len, .int .i64 day, .slice sa sn sc, .slice ta tn tc, .slice na nn nc]), Told.is (.slice (some be) 1 c10), Told.is (.pointer (some be)), Told.is (.int .i64 k), Told.is (.string tk), Told.such (fun v W => ∃ A, v = .slice A 1 1 /\ SR W W.heap.size A 1 [tk]) (fun v W W' ⟨A, h1, h2⟩ hb => ⟨A, h1, Reads.on h2 hb⟩)] (by kernel_rfl) (by kernel_rfl) ?_ ?_
         ·simp only [List.take_succ_cons, List.take_zero];refine And.intro (fun w1 vals hB hd K hK => ?_) ?_
          ·clear hd;simp only [putAll, Act.put, pS] at hK |-;refine gwp_none rfl ?_;go_simp;exact hK _ _ rfl bR
          refine And.intro (fun w1 vals hB hd K hK => ?_) ?_
          ·clear hd;simp only [putAll, Act.put, pS] at hK |-;refine gwp_none rfl ?_;refine wp_load_mid 38 (.tmp 2) rfl w.heap.size 0 rfl [.int .i64 rid, .string name, .int .i64 len, .int .i64 day, .slice sa sn sc, .slice ta tn tc, .slice na nn nc] _ (HD11.out w1 hB) Tryz.underlying38 rfl (by kernel_rfl) ?_;simp only [Act.put, pS];exact hK _ _ rfl bR
          refine And.intro (fun w1 vals hB hd K hK => ?_) ?_
          ·clear hd;simp only [putAll, Act.put, pS] at hK |-;refine gwp_none rfl ?_;go_simp;exact hK _ _ rfl bR
          refine And.intro (fun w1 vals hB hd K hK => ?_) ?_
          ·have e2 := tI (hd 2 rfl) rfl;clear hd;simp only [putAll, Act.put, pS] at hK |-;simp only [e2] at hK |-;clear e2;refine gwp_none rfl ?_;go_simp;exact hK _ _ rfl bR
          refine And.intro (fun w1 vals hB hd K hK => ?_) ?_
          ·have e3 := tI (hd 3 rfl) rfl;clear hd;simp only [putAll, Act.put, pS] at hK |-;simp only [e3] at hK |-;clear e3;refine gwp_none rfl ?_;have hc := HCK.out w1 hB;go_simp;exact hK _ _ rfl bR
          refine And.intro (fun w1 vals hB hd K hK => ?_) ?_
          ·have e1 := tI (hd 1 rfl) rfl;have e4 := tI (hd 4 rfl) rfl;clear hd;simp only [putAll, Act.put, pS] at hK |-;simp only [e1, e4] at hK |-;clear e1 e4;refine gwp_none rfl ?_;go_simp;refine (HTX11.out w1 hB).mono ?_;rintro e w4 ⟨rfl, hb4⟩;exact hK _ _ rfl hb4
          refine And.intro (fun w1 vals hB hd K hK => ?_) ?_
          ·have e5 := tI (hd 5 rfl) rfl;clear hd;simp only [putAll, Act.put, pS] at hK |-;simp only [e5] at hK |-;clear e5;refine gwp_none rfl ?_;go_simp;exact hK _ _ ⟨_, rfl, sr_new w1 9 [tk] _ rfl 1 rfl⟩ (bR.alloc (Nat.le_refl _) _)
          exact trivial
         ·intro w1 vals hB hd;have e0 := tI (hd 0 (by decide) (by decide)) rfl;have p6 := told_at (hd 6 (by decide) (by decide)) rfl;simp only [Told.holds] at p6;obtain ⟨x6, hx6⟩ : ∃ x, vals 6 = x := ⟨_, rfl⟩;rw [hx6] at p6;clear hd;simp only [List.take_succ_cons, List.take_zero, List.drop_succ_cons, List.drop_zero];simp only [putAll, Act.put, pS];simp only [e0, hx6];clear e0 hx6;obtain ⟨A6, rfl, hs6⟩ := p6;have HS6 := hI hs6;have HO6d := hI (HO6c.out.on hB);have HO7d := hI (own_below HO7c.out hB);have HB11 : Hid (Below w3.heap.size w3 w1) := HB10.out.trans (hB.mono hz10);have hz11 := HB11.out.size;have HAPd := hI HAPc.out.symm;clear hs6 hB HTX11 HO6c HO7c HD11 HCK;go_wp2_with (at_builtin; refine wpList_app rfl (.tmp 53) (.tmp 59) 45 rfl w3.heap.size 9 16 (.string .empty) info_string rfl Tryz.underlying45 rfl HO7d.out (A := A6) (m := 1) (c := 1) rfl HS6.out (one_strH _) (by omega) (by omega) hz11 ?_; intro v7 wb hown7 hg7 hat7)
          have HK6 := hI (own_kept HO6d.out hg7 HAPd.out hat7);have HO7e : Hid (OwnS wb w3.heap.size v7 (gs ++ [tk])) := own_s (n := 0) hown7;have HO6e : Hid (OwnS wb w3.heap.size v6 (fs ++ [tx])) := HK6.out.1;have HBE : Hid (Below w3.heap.size w3 wb) := below_app HB11.out HO7d.out hg7 (Nat.le_refl _) hz11;rw [<- HN6.out] at HO6e;rw [<- HN7e.out] at HO7e;clear hown7 hg7 hat7;go_wp2;go_roundw
          case rel =>
           first
            | exact ⟨i + 1, HLT.out, by go_num, HO6e, HO7e, HK6.out.2, HBE⟩
            | ((repeat apply Exists.intro); refine ⟨?_, rfl⟩; exact ⟨i + 1, HLT.out, by go_num, HO6e, HO7e, HK6.out.2, HBE⟩)
          case measure => have := HLT.out; simp [intOf]; omega
        | k :: k2 :: r, h => exact absurd h (by simp)
     ·obtain rfl : i = ks.length := by omega
      have hiz : ¬ (ks.length : Int) < (ks.length : Int) := by omega
      rw [List.take_length] at HO6 HO7;go_wp2;go_ret2;exact ⟨_, _, rfl, by rw [HF.out.1]; exact own_base HO6.out (by have := HB3.out.size; have := HB.out.size; omega), by rw [HF.out.2]; exact own_base HO7.out (by have := HB3.out.size; have := HB.out.size; omega), HBW.out _ (HB3.out.trans (HB4.out.mono HB3.out.size))⟩
set_option maxHeartbeats 4000000 in
set_option maxRecDepth 100000 in
theorem refWords_any (d : Dv) (T : List Ti) (l : List Nt) (id : Int) (K : Nat) (w : World) (hT : TiersR w w.heap.size d.ta d.tn T) (hl : NotesR w w.heap.size d.na d.nn l) (hL : LightN T l) (hnn : d.nn < 20) (htn : d.tn <= 1000000)
  (hend : ∀ x, curF l x K = none) (hK : K <= d.tn + 1) :
  Calls Tryz.prog 40 #[docV d, .int .i64 id] w fun e w' => ∃ v, e = .returned v /\ OwnI w' w.heap.size v (wordsL T l id K) /\ Below w.heap.size w w' := by
 have hTl := hT.len;have HCL : Hid (∀ x, (chainL l x K).length <= 1000001) := fun x => by have := chainL_le (l := l) (id := x) K; omega
 have hlen : (ofI T l (roleT T 2)).length <= 1000000 := by have := ofI_len (T := T) (l := l) (t := roleT T 2); have := hl.len; omega
 have HRO := hI fun (W : World) (hW : Below w.heap.size w W) => refRole_any d.ta d.tn d.tc T 2 W (hT.on hW) (by omega)
 have HOF := hI fun (W : World) (hW : Below w.heap.size w W) => of39_any d T l (roleT T 2) W hL (hT.on hW) (hl.on hW) (by omega)
 have HCH := hI fun (W : World) (hW : Below w.heap.size w W) (x : Int) => refChain_any d l x K W (hl.on hW) (by omega) (hend x) hK htn
 have hneg : roleT T 2 < 0 -> ofI T l (roleT T 2) = [] := fun h => by unfold ofI; rw [if_pos (.inl h)]
 have hpos : ¬ roleT T 2 < 0 -> ofL T l (roleT T 2) = ofI T l (roleT T 2) := fun h => by
  unfold ofI;rw [if_neg];rcases roleT_some T 2 with e | ⟨_, e, _⟩
  ·omega
  ·omega
 unfold wordsL;obtain ⟨rt, hrt⟩ : ∃ rt, roleT T 2 = rt := ⟨_, rfl⟩;rw [hrt] at HRO HOF hlen hneg hpos |-;obtain ⟨ids, hids⟩ : ∃ ids, ofI T l rt = ids := ⟨_, rfl⟩;rw [hids] at hlen hneg hpos |-;clear hT hl hL hend hTl hrt hids;unfold docV at HOF HCH;unfold docV;obtain ⟨rid, name, len, day, sa, sn, sc, ta, tn, tc, na, nn, nc⟩ := d;simp only at HRO HOF HCH hnn htn hK |-;obtain ⟨W0, hW0, hz0, hB0, hK0⟩ := doc_cells w rid name len day sa ta na sn sc tn tc nn nc;have HB := hI hB0;have HK := hI hK0;clear hB0 hK0;have k5 : W0.cell? ⟨w.heap.size, 5, none⟩ = some (.slice ta tn tc) := HK.out W0 bR 5 _ rfl;go_enter Tryz.func40, Tryz.ntmps40
 go_upto_region 1 with fail
 (try rw [hW0])
 clear hW0;have HRR := hI (HRO.out W0 HB.out);go_wp2_with fail
 refine HRR.out.mono ?_;rintro e w1 ⟨rfl, hb1⟩;have HB1 := hI hb1;clear hb1 k5 HRR HRO;by_cases h0 : rt < 0
 ·have c0 : decide (rt < 0) = true := decide_eq_true h0;have HE := hI (hneg h0);clear hneg hpos h0;go_wp2;go_ret;exact ⟨_, rfl, by rw [HE.out]; exact OwnI.nil _ _, HB.out.trans (HB1.out.mono HB.out.size)⟩
 ·have c0 : decide (rt < 0) = false := decide_eq_false h0;have hpo := hpos (by omega);rw [hpo] at HOF;clear hneg hpos h0 hpo;obtain ⟨k0, k1, k2, k3, k4, k5, k6⟩ := range7 (HK.out w1 HB1.out);have HOO := hI (HOF.out w1 (HB.out.trans (HB1.out.mono HB.out.size)));go_wp2_with fail
  refine HOO.out.mono ?_;rintro e w2 ⟨v, rfl, hO, hb2⟩;have HO7 := hI hO;have HBA : Hid (Below W0.heap.size W0 w2) := HB1.out.trans (hb2.mono HB1.out.size);obtain ⟨A7, c7, hv7, h7a, h7b, h7r⟩ := OwnI.form HO7.out;subst hv7;have HIR := hI h7r;clear hO hb2 h7a h7b h7r HOO HOF k0 k1 k2 k3 k4 k5 k6 c0 HO7;obtain ⟨w0, hw0⟩ : ∃ w0, w2 = w0 := ⟨_, rfl⟩;rw [hw0] at HBA HIR |-;clear hw0 HB1;go_wp2_with fail
  go_loopw [7, 8, 19] (fun v7 v8 v19 wr => ∃ i : Nat, i <= ids.length /\ v19 = .int .i64 i /\ Hid (OwnI wr w0.heap.size v7 ((ids.take i).filter fun x => decide (id ∈ chainL l x K))) /\ Hid (Below w0.heap.size w0 wr)) (fun _ _ v19 _ => ids.length - (intOf v19).toNat)
  case atStart => exact ⟨0, Nat.zero_le _, rfl, OwnI.nil _ _, Below.refl _ _⟩
  case round =>
   obtain ⟨i, hi, rfl, HO, HB2⟩ := hrel;obtain ⟨w2, hw2⟩ : ∃ w2, wr = w2 := ⟨_, rfl⟩;rw [hw2] at HO HB2 |-;clear hw2;have HB12 : Hid (Below W0.heap.size W0 w2) := HBA.out.trans (HB2.out.mono HBA.out.size);by_cases hlt : i < ids.length
   ·have hiz : (i : Int) < (ids.length : Int) := by omega
    have hiA : (0 : Int) <= (i : Int) := by omega
    obtain ⟨bd, x, hA, hbb, hidx, hc⟩ := HIR.out.at_ hlt;subst hA;have HCX : Hid (∀ W, Below w2.heap.size w2 W -> W.cell? (bd.add i) = some (.int .i64 x)) := fun W hW => ((HB2.out.trans (hW.mono HB2.out.size)).cell (by rw [block_of_add]; exact hbb)).trans hc
    have HLT := hI hlt;have HNX := hI (filter_next (p := fun x => decide (id ∈ chainL l x K)) hidx)
    have hpt : ((ids.take i).filter fun x => decide (id ∈ chainL l x K)).length <= 1000000 := by
     have h1 := List.length_filter_le (fun x => decide (id ∈ chainL l x K)) (ids.take i);rw [List.length_take] at h1;omega
    have HCC := hI fun W (hW : Below w2.heap.size w2 W) => HCH.out W (HB.out.trans ((HB12.out.trans (hW.mono HB12.out.size)).mono HB.out.size)) x
    obtain ⟨ll, hll⟩ : ∃ ll, ((ids.take i).filter fun x => decide (id ∈ chainL l x K)) = ll := ⟨_, rfl⟩;rw [hll] at HNX hpt HO;have hcl := HCL.out x;obtain ⟨ch, hch⟩ : ∃ ch, chainL l x K = ch := ⟨_, rfl⟩;have HNX2 : Hid ((ids.take (i + 1)).filter (fun x => decide (id ∈ chainL l x K)) = ll ++ if decide (id ∈ ch) = true then [x] else []) := by rw [<- hch]; exact HNX.out
    rw [hch] at HCC hcl;have hsz := HB2.out.size;obtain ⟨bb, hbb2⟩ : ∃ bb, decide (id ∈ ch) = bb := ⟨_, rfl⟩;have HBB := hI hbb2;rw [hbb2] at HNX2;clear hc hidx hll HNX hch hbb2;go_upto_region 9 with fail
    refine wp_region_told [Told.is (.agg #[.int .i64 rid, .string name, .int .i64 len, .int .i64 day, .slice sa sn sc, .slice ta tn tc, .slice na nn nc]), Told.is (.slice (some bd) ids.length c7), Told.is (.int .i64 (i : Int)), Told.is (.pointer (some (bd.add i))), Told.is (.int .i64 x), Told.such (fun v W => OwnI W w2.heap.size v ch) (fun v W W' h hb => h.on hb), Told.is (.int .i64 id), Told.is (.bool bb)] (by kernel_rfl) (by kernel_rfl) ?_ ?_
    ·refine And.intro (fun wq vals hB hd K hK => ?_) ?_
     ·clear hd;simp only [putAll, Act.put, pS] at hK |-;refine gwp_none rfl ?_;obtain ⟨k0, k1, k2, k3, k4, k5, k6⟩ := range7 (HK.out wq (HB12.out.trans (hB.mono HB12.out.size)));go_simp;exact hK _ _ rfl bR
     refine And.intro (fun wq vals hB hd K hK => ?_) ?_
     ·clear hd;simp only [putAll, Act.put, pS] at hK |-;refine gwp_none rfl ?_;go_simp;exact hK _ _ rfl bR
     refine And.intro (fun wq vals hB hd K hK => ?_) ?_
     ·clear hd;simp only [putAll, Act.put, pS] at hK |-;refine gwp_none rfl ?_;go_simp;exact hK _ _ rfl bR
     refine And.intro (fun wq vals hB hd K hK => ?_) ?_
     ·have e1 := tI (hd 1 rfl) rfl;have e2 := tI (hd 2 rfl) rfl;clear hd;simp only [putAll, Act.put, pS] at hK |-;simp only [e1, e2] at hK |-;clear e1 e2;refine gwp_none rfl ?_;go_simp;exact hK _ _ rfl bR
     refine And.intro (fun wq vals hB hd K hK => ?_) ?_
     ·have e3 := tI (hd 3 rfl) rfl;clear hd;simp only [putAll, Act.put, pS] at hK |-;simp only [e3] at hK |-;clear e3;refine gwp_none rfl ?_;have hcq : wq.cell? (bd.add i) = some (.int .i64 x) := HCX.out wq hB;go_simp;exact hK _ _ rfl bR
     refine And.intro (fun wq vals hB hd K hK => ?_) ?_
     ·have e0 := tI (hd 0 rfl) rfl;have e4 := tI (hd 4 rfl) rfl;clear hd;simp only [putAll, Act.put, pS] at hK |-;simp only [e0, e4] at hK |-;clear e0 e4;refine gwp_none rfl ?_;go_simp;refine (HCC.out wq hB).mono ?_;rintro e w3 ⟨v, rfl, hO, hb⟩;exact hK _ _ (own_base hO hB.size) hb
     refine And.intro (fun wq vals hB hd K hK => ?_) ?_
     ·clear hd;simp only [putAll, Act.put, pS] at hK |-;refine gwp_none rfl ?_;go_simp;exact hK _ _ rfl bR
     refine And.intro (fun wq vals hB hd K hK => ?_) ?_
     ·have p5 := told_at (hd 5 rfl) rfl;simp only [Told.holds] at p5;have e6 := tI (hd 6 rfl) rfl;clear hd;obtain ⟨x5, hx5⟩ : ∃ x, vals 5 = x := ⟨_, rfl⟩;rw [hx5] at p5;simp only [putAll, Act.put, pS] at hK |-;simp only [e6, hx5] at hK |-;clear e6 hx5;refine gwp_none rfl ?_;obtain ⟨A3, c3, rfl, h3a, h3b, h3r⟩ := OwnI.form p5;go_simp;refine (refHas_any A3 ch.length c3 ch id wq h3r (by omega)).mono ?_;rintro e w3 ⟨rfl, rfl⟩;rw [HBB.out];exact hK _ _ rfl bR
     exact trivial
    ·intro wq vals hB hd;have e7 := tI (hd 7 (by decide)) rfl;clear hd;simp only [putAll, Act.put, pS];simp only [e7];clear e7;have HB3 : Hid (Below w0.heap.size w0 wq) := HB2.out.trans (hB.mono hsz);have HOO := hI (HO.out.on hB);have hcw : wq.cell? (bd.add i) = some (.int .i64 x) := HCX.out wq hB;have hs3 := HB3.out.size;clear hB HO HBB
     cases bb with
     | false =>
      go_wp2;go_roundw
      case rel => exact ⟨i + 1, HLT.out, by go_num, (by rw [HNX2.out, if_neg (by simp), List.append_nil]; exact HOO), HB3⟩
      case measure => have := HLT.out; simp [intOf]; omega
     | true =>
      go_wp2_with (at_builtin; refine wpList_app1 rfl (.tmp 30) (.tmp 35) 32 rfl w0.heap.size 3 8 (.int .i64 0) info_int rfl Tryz.underlying32 rfl HOO.out rfl rfl (by omega) (by omega) hs3 ?_; rintro v5 w4 hown5 hb5 hs5 hk5; clear hk5)
      have HO4 : Hid (OwnI w4 w0.heap.size v5 (ll ++ [x])) := own_i hown5;have HB4 : Hid (Below w0.heap.size w0 w4) := HB3.out.trans hb5;clear hown5 hb5;go_wp2;go_roundw
      case rel => exact ⟨i + 1, HLT.out, by go_num, (by rw [HNX2.out, if_pos (by simp)]; exact HO4), HB4⟩
      case measure => have := HLT.out; simp [intOf]; omega
   ·obtain rfl : i = ids.length := by omega
    have hiz : ¬ (ids.length : Int) < (ids.length : Int) := by omega
    rw [List.take_length] at HO;go_wp2;go_ret;exact ⟨_, rfl, own_base HO.out (by have := HBA.out.size; have := HB.out.size; omega), HB.out.trans (HB12.out.mono HB.out.size)⟩
end
section
open Go Go.RowKit
variable {P : Program} {ops : Array Oper} {Q : Exit → Act → World → Prop}
theorem wp_region_toldV {id : Nat} {a0 : Act} {w0 : World} {l : List Oper} (Vs : List Told) (hm : P.follows .mixedOrders = true) (hb : ((backW l.toArray && (distB l.toArray && dstB l.toArray a0.tmps.size)) && guardB l) = true)
  (hstep : StepsAt P Q l a0 w0 Vs 0 l)
  (hQ : ∀ (w : World) (vals : Nat -> Value), Below w0.heap.size w0 w -> (∀ j, j < l.length -> toldAt Vs j (vals j) w) -> Q .normal (putAll l 0 vals a0) w) : (Code.region id l.toArray true).wp P Q a0 w0 := by
 rw [Bool.and_eq_true] at hb;have hb' := hb.1;rw [Bool.and_eq_true, Bool.and_eq_true] at hb';refine wp_region_genW (ops := l.toArray) hm (fun w => Below w0.heap.size w0 w) (toldAt Vs) hb.1 bR.drew (fun i o w vals ho hC hd => ?_) (fun w vals hC h => hQ w vals hC fun j hj => h j (by simpa using hj));have hol : l[i]? = some o := by simpa using ho
 refine wpOp_of_gwp hb'.2.1 hb'.2.2 hol hb.2 ?_;exact stepsAt_get hstep hol w vals hC (fun j hj => hd j (by rw [<- Array.any_toList]; exact hj)) _ fun v w' h1 h2 => ⟨v, rfl, by rw [Nat.zero_add] at h1; exact h1, hC.trans (h2.mono hC.size), fun j u _ hu => toldAt_kept Vs j u w w' hu h2⟩
end
end Go.Proofs.YthcabnfcgjnlnaaGreatDoor
