import Derived.Test.YthcabnfcgjnlnaaGreatDoorB12
set_option linter.unusedVariables false
set_option linter.unusedSimpArgs false
namespace Go.Proofs.YthcabnfcgjnlnaaGreatDoor
section
open Go.RowKit Ru Lay
attribute [local go_sem ↓] Go.wp_at_zero Go.wp_at_succ
theorem txt_empty (s : ByteArray) : (s.toList.isEmpty = true -> s.size = 0) /\ (s.size = 0 -> s.toList.isEmpty = true) := by
 rw [Lib.toList_data];have h1 : s.size = s.data.toList.length := (Array.length_toList).symm
 cases h : s.data.toList with
 | nil => rw [h] at h1; exact ⟨fun _ => h1, fun _ => rfl⟩
 | cons a t => rw [h, List.length_cons] at h1; exact ⟨fun h2 => (by cases h2), fun h2 => (by omega)⟩
theorem one_strG (l : List ByteArray) : ∀ u ∈ l.map Value.string, u.oneCell' = true := fun u hu => by
 obtain ⟨s, _, rfl⟩ := List.mem_map.1 hu;rfl
set_option maxHeartbeats 8000000 in
set_option maxRecDepth 100000 in
theorem linesG_any (A : Option Addr) (n c : Nat) (D : List Dc) (A2 : Option Addr) (m c2 : Nat) (L : List Pt) (WD : Int) (w : World) (hD : DcsR w w.heap.size A n D) (hn : n <= 1000) (hP : PtsR w w.heap.size A2 m L) (hm : m <= 1000)
  (hok : ∀ x ∈ D, DcOk x) (hrf : ∀ p ∈ L, p.refs.length <= 1000 /\ p.title.size <= 1000000) (hWD : WD <= 9223372036854775807) (hT : Tabs w) (hPw : Pow w) :
  Calls Tryz.prog 25 #[.slice A n c, .slice A2 m c2, .int .i64 WD] w fun e w' => ∃ v, e = .returned v /\ OwnS w' w.heap.size v (linesG D L WD) /\ Below w.heap.size w w' := by
 have hl20 : ∀ x ∈ D, x.l.length <= 20 := fun x hx => by have h1 := (hD.2 x hx).2.len; have h2 := (hok x hx).nn; omega
 have HDP := hI fun (W : World) (hW : Below w.heap.size w W) (rec : Int) => docP_any A n c D rec W (hD.on hW) (by omega)
 have HNT := hI fun (W : World) (hW : Below w.heap.size w W) (z : Int) (h0 : -9223372036854775808 <= z) (h1 : z <= 9223372036854775807) => numText_any z W h0 h1 (hPw.on hW)
 have HEX := hI fun (x : Dc) (hx : x ∈ D) (W : World) (hW : Below w.heap.size w W) (id : Int) => example_any x.d x.T x.l id x.T.length WD W ((hD.on hW).2 x hx).1 ((hD.on hW).2 x hx).2 (hok x hx).ok.light (hok x hx).ok.up (by have := (hok x hx).nn; omega) (by have := (hok x hx).tn; omega) (fun i => (hok x hx).ok.stop i) (by have h1 := ((hD.on hW).2 x hx).1.len; have h2 := (hok x hx).tn; omega) (hok x hx).txt hWD (hT.on hW)
 have HES := hI (exC_sz hok hl20 WD);have HEL := hI (exC_len hl20 WD);have HLM := hI fun i => linesM_len hl20 WD (fun p hp => (hrf p hp).1) i (out := numsF [] (allR L))
 have HFL := hI fun rs => flatG_le hl20 WD rs (out := numsF [] (allR L))
 have HPT := hI hP;have HPL := hI hP.len;have HRF := hI hrf
 have hz : (allR L).length <= 1000000 := by
  have h1 := allR_le (k := 1000) fun p hp => (hrf p hp).1
  have h2 : L.length * 1000 <= 1000 * 1000 := Nat.mul_le_mul_right 1000 (by rw [hP.len]; exact hm);omega
 have HNU := hI (numbers_any A2 m c2 L w hP (by omega) hz);have hol := numsF_len (allR L) [];have HOL : Hid ((numsF [] (allR L)).length <= 1000000) := by show _ <= _; rw [List.length_nil] at hol; omega
 have HLG : Hid (linesG D L WD = linesM (numsF [] (allR L)) D WD L L.length) := rfl;clear hD hP hok hrf hT hPw hl20 hz hol;rw [HLG.out];clear HLG;obtain ⟨out, hout⟩ : ∃ x, numsF [] (allR L) = x := ⟨_, rfl⟩
 have HNUP : Hid (Calls Tryz.prog 33 #[.slice A2 m c2] w fun e w' => ∃ v b, e = .returned (.tuple #[v, .map (some b)]) /\ NumM w' b out /\ Below w.heap.size w w') := HNU.out.mono fun e w' h => by
  obtain ⟨v, b, h1, _, h3, h4⟩ := h;rw [hout] at h3;exact ⟨v, b, h1, h3, h4⟩
 rw [hout] at HLM HFL HOL |-;clear HNU hout;go_enter Tryz.func25, Tryz.ntmps25
 go_wp2_with fail
 refine HNUP.out.mono ?_;rintro e wn ⟨v1, b, rfl, hN1, hb1⟩;have HN1 := hI hN1;have hbB := hN1.lt;have HB1 := hI hb1;have hz1 := hb1.size;have HBW : Hid (∀ W, Below wn.heap.size wn W -> Below w.heap.size w W) := fun W hW => HB1.out.trans (hW.mono HB1.out.size)
 clear hN1 hb1 HNUP;go_wp2_with fail
 go_loopw [7, 10, 11, 13, 14, 15, 17, 25] (fun v7 v10 v11 v13 v14 v15 v17 v25 wr => ∃ i : Nat, i <= m /\ v25 = .int .i64 i /\ Hid (OwnS wr wn.heap.size v7 (linesM out D WD L i)) /\ Hid (Below wn.heap.size wn wr)) (fun _ _ _ _ _ _ _ v25 _ => m - (intOf v25).toNat)
 case atStart => exact ⟨0, Nat.zero_le _, rfl, OwnS.nil _ _, Below.refl _ _⟩
 case round =>
  obtain ⟨i, hi, rfl, HO, HB2⟩ := hrel;obtain ⟨w2, hw2⟩ : ∃ w2, wr = w2 := ⟨_, rfl⟩;rw [hw2] at HO HB2 |-;clear hw2;have hz2 := HB2.out.size;by_cases hlt : i < m
  ·have hiz : (i : Int) < (m : Int) := by omega
   have hiA : (0 : Int) <= (i : Int) := by omega
   obtain ⟨ad, p, rfl, hab, hp, hpr, hpc⟩ := HPT.out.at_ hlt;obtain ⟨q0, q1, q2, q3, q4⟩ := hpc w2 (HBW.out _ HB2.out);have hpx := HRF.out p (List.mem_of_getElem? hp);have HLT := hI hlt;have HNXT := hI (linesM_next (out := out) (D := D) (WD := WD) hp)
   have hlm : (linesM out D WD L i).length <= 122000000 := by
    have h1 := HLM.out i;have h2 : i * 122000 <= 1000 * 122000 := Nat.mul_le_mul_right 122000 (by omega);omega
   obtain ⟨LM, hLM⟩ : ∃ x, linesM out D WD L i = x := ⟨_, rfl⟩;rw [hLM] at HO HNXT hlm;obtain ⟨pid, title, text, ea, en, ec, ra, rn, rc, refs⟩ := p;have HRFS := hI hpr.refs;have HROK := hI hpr.ok;simp only at q0 q1 q2 q3 q4 hpx HRFS HROK;obtain ⟨pp, hpp⟩ : ∃ pp, w2.heap.size = pp := ⟨_, rfl⟩;obtain ⟨W2, hW2⟩ : ∃ W2, w2.alloc (.cells #[.int .i64 pid, .string title, .string text, .slice ea en ec, .slice ra rn rc] 65) = W2 := ⟨_, rfl⟩;have hzW : W2.heap.size = pp + 1 := by rw [<- hW2, <- hpp]; simp
   have HO2 : Hid (OwnS W2 wn.heap.size u7 LM) := by rw [<- hW2]; exact World.ownsRow.alloc HO.out _
   have HGP : Hid (W2.ownsRow 0 65 5 (.slice (some ⟨pp, 0, none⟩) 1 1) 1 [.int .i64 pid, .string title, .string text, .slice ea en ec, .slice ra rn rc]) := by rw [<- hW2, <- hpp]; exact guest_made w2 _ _ _ rfl 5 rfl
   have HAP : Hid (Apart (.slice (some ⟨pp, 0, none⟩) 1 1) u7) := fun b2 hb2 he => by
    have h1 := (World.ownsRow.lt HO.out b2 he).2;simp [Value.ownBlock] at hb2
    omega
   have HB3 : Hid (Below wn.heap.size wn W2) := by rw [<- hW2]; exact HB2.out.alloc HB2.out.size _
   have HG : Hid (∀ W, Below W2.heap.size W2 W -> ∀ (j : Nat) v, [.int .i64 pid, .string title, .string text, .slice ea en ec, .slice ra rn rc][j]? = some v -> j < 1 * 5 -> W.cell? ⟨pp, j, none⟩ = some v) := fun W hW j v hj hjs => guest_cell (own_below HGP.out hW) hj hjs
   have hw1 : IntKind.i64.wrap ((i : Int) + 1) = (i : Int) + 1 := by rw [IntKind.wrap_i64]; omega
   have HT1 := hI fun (W : World) (hW : Below W2.heap.size W2 W) => HNT.out W (HBW.out _ (HB3.out.trans (hW.mono HB3.out.size))) ((i : Int) + 1) (by omega) (by omega)
   have hs1 := itoaB_sz (n := (i : Int) + 1) (by omega) (by omega);have hHD : headB i ⟨pid, title, text, ea, en, ec, ra, rn, rc, refs⟩ = itoaB ((i : Int) + 1) ++ ⟨#[46, 32]⟩ ++ title := rfl;have hPT : ptL out D WD i ⟨pid, title, text, ea, en, ec, ra, rn, rc, refs⟩ = (itoaB ((i : Int) + 1) ++ ⟨#[46, 32]⟩ ++ title) :: (txtL ⟨pid, title, text, ea, en, ec, ra, rn, rc, refs⟩ ++ refs.flatMap (refL out D WD)) := rfl;rw [hPT] at HNXT;obtain ⟨s1, hs1q⟩ : ∃ x, itoaB ((i : Int) + 1) = x := ⟨_, rfl⟩;rw [hs1q] at HT1 hs1 HNXT;have hn1 : ¬ 9223372036854775807 < s1.size + 2 := by omega
   have hn2 : ¬ 9223372036854775807 < s1.size + 2 + title.size := by omega
   have htx : (txtL ⟨pid, title, text, ea, en, ec, ra, rn, rc, refs⟩) = if text.size = 0 then [] else [text] := rfl
   rw [htx] at HNXT;have HRN := hI hpx.1;have hrn : rn <= 1000 := by have := HRFS.out.len; have := hpx.1; omega
   clear hp hpr hpc HO hLM hHD hPT hs1q htx hpx;go_upto_region 6 with fail
   (try rw [hW2])
   (try rw [hpp])
   clear hW2 hpp q0 q1 q2 q3 q4;refine wp_region_toldT 9 [Told.is (u7), Told.is (.int .i64 (i : Int)), Told.is (.int .i64 ((i : Int) + 1)), Told.is (.string s1), Told.is (.string (s1 ++ (⟨#[46, 32]⟩ : ByteArray))), Told.is (.pointer (some ⟨pp, 1, none⟩)), Told.is (.string title), Told.is (.string (s1 ++ (⟨#[46, 32]⟩ : ByteArray) ++ title)), Told.such (fun v W => ∃ A, v = .slice A 1 1 /\ SR W W.heap.size A 1 [s1 ++ (⟨#[46, 32]⟩ : ByteArray) ++ title]) (fun v W W' ⟨A, h1, h2⟩ hb => ⟨A, h1, Reads.on h2 hb⟩)] (by kernel_rfl) (by kernel_rfl) ?_ ?_
   ·simp only [List.take_succ_cons, List.take_zero];refine And.intro (fun w1 vals hB hd K hK => ?_) ?_
    ·clear hd;simp only [putAll, Act.put, pS] at hK |-;refine gwp_none rfl ?_;go_simp;exact hK _ _ rfl bR
    refine And.intro (fun w1 vals hB hd K hK => ?_) ?_
    ·clear hd;simp only [putAll, Act.put, pS] at hK |-;refine gwp_none rfl ?_;go_simp;exact hK _ _ rfl bR
    refine And.intro (fun w1 vals hB hd K hK => ?_) ?_
    ·have e1 := tI (hd 1 rfl) rfl;clear hd;simp only [putAll, Act.put, pS] at hK |-;simp only [e1] at hK |-;clear e1;refine gwp_none rfl ?_;go_simp;exact hK _ _ rfl bR
    refine And.intro (fun w1 vals hB hd K hK => ?_) ?_
    ·have e2 := tI (hd 2 rfl) rfl;clear hd;simp only [putAll, Act.put, pS] at hK |-;simp only [e2] at hK |-;clear e2;refine gwp_none rfl ?_;go_simp;refine (HT1.out w1 hB).mono ?_;rintro e w4 ⟨rfl, hb4⟩;exact hK _ _ rfl hb4
    refine And.intro (fun w1 vals hB hd K hK => ?_) ?_
    ·have e3 := tI (hd 3 rfl) rfl;clear hd;simp only [putAll, Act.put, pS] at hK |-;simp only [e3] at hK |-;clear e3;refine gwp_none rfl ?_;go_simp;exact hK _ _ rfl bR
    refine And.intro (fun w1 vals hB hd K hK => ?_) ?_
    ·clear hd;simp only [putAll, Act.put, pS] at hK |-;refine gwp_none rfl ?_;go_simp;exact hK _ _ rfl bR
    refine And.intro (fun w1 vals hB hd K hK => ?_) ?_
    ·have e5 := tI (hd 5 rfl) rfl;clear hd;simp only [putAll, Act.put, pS] at hK |-;simp only [e5] at hK |-;clear e5;refine gwp_none rfl ?_;have c1 := HG.out w1 hB 1 _ rfl (by decide);go_simp;exact hK _ _ rfl bR
    refine And.intro (fun w1 vals hB hd K hK => ?_) ?_
    ·have e4 := tI (hd 4 rfl) rfl;have e6 := tI (hd 6 rfl) rfl;clear hd;simp only [putAll, Act.put, pS] at hK |-;simp only [e4, e6] at hK |-;clear e4 e6;refine gwp_none rfl ?_;go_simp;exact hK _ _ rfl bR
    refine And.intro (fun w1 vals hB hd K hK => ?_) ?_
    ·have e7 := tI (hd 7 rfl) rfl;clear hd;simp only [putAll, Act.put, pS] at hK |-;simp only [e7] at hK |-;clear e7;refine gwp_none rfl ?_;go_simp;exact hK _ _ ⟨_, rfl, sr_new w1 9 [s1 ++ (⟨#[46, 32]⟩ : ByteArray) ++ title] _ rfl 1 rfl⟩ (bR.alloc (Nat.le_refl _) _)
    exact trivial
   ·intro w1 vals hB hd;have e0 := tI (hd 0 (by decide) (by decide)) rfl;have p8 := told_at (hd 8 (by decide) (by decide)) rfl;simp only [Told.holds] at p8;obtain ⟨x8, hx8⟩ : ∃ x, vals 8 = x := ⟨_, rfl⟩;rw [hx8] at p8;clear hd;simp only [List.take_succ_cons, List.take_zero, List.drop_succ_cons, List.drop_zero];simp only [putAll, Act.put, pS];simp only [e0, hx8];clear e0 hx8;obtain ⟨A8, rfl, hs8⟩ := p8;have HS8 := hI hs8;have HO3 := hI (HO2.out.on hB);have HG3 := hI (own_below HGP.out hB);have HB4 : Hid (Below wn.heap.size wn w1) := HB3.out.trans (hB.mono HB3.out.size);have hz4 := HB4.out.size;clear hs8 hB HT1 HG HO2 HGP;go_upto_if 42 with (at_builtin; refine wpList_app rfl (.tmp 30) (.tmp 38) 45 rfl wn.heap.size 9 16 (.string .empty) info_string rfl Tryz.underlying45 rfl HO3.out (A := A8) (m := 1) (c := 1) rfl HS8.out (one_strG _) (by omega) (by omega) hz4 ?_; intro v8 w4 hown8 hg8 hat8; have HK8 := hI (own_kept HG3.out hg8 HAP.out hat8); have HO8 : Hid (OwnS w4 wn.heap.size v8 (LM ++ [s1 ++ (⟨#[46, 32]⟩ : ByteArray) ++ title])) := own_s (n := 0) hown8; have HB8 : Hid (Below wn.heap.size wn w4) := below_app HB4.out HO3.out hg8 (Nat.le_refl _) hz4; clear hown8 hg8 hat8 HO3 HG3 HB4; have c2 : w4.cell? ⟨pp, 2, none⟩ = some (.string text) := guest_cell HK8.out.1 (j := 2) rfl (by decide))
    go_cut [7] from 42 to 47 (fun v7 wx => Hid (OwnS wx wn.heap.size v7 (LM ++ [s1 ++ (⟨#[46, 32]⟩ : ByteArray) ++ title] ++ (if text.size = 0 then [] else [text]))) /\ Hid (wx.cell? ⟨pp, 4, none⟩ = some (.slice ra rn rc)) /\ Hid (Below wn.heap.size wn wx))
    case first =>
     obtain ⟨tb, htb⟩ : ∃ tb, text.toList.isEmpty = tb := ⟨_, rfl⟩;have HE := hI (txt_empty text);rw [htb] at HE |-;clear htb
     cases tb with
     | true =>
      have HI0 : Hid ((if text.size = 0 then [] else [text]) = ([] : List ByteArray)) := if_pos (HE.out.1 rfl);have HC4 := hI (guest_cell HK8.out.1 (j := 4) rfl (by decide));go_wp2;go_meet
      exact ⟨(by rw [HI0.out, List.append_nil]; exact HO8.out), HC4, HB8⟩
     | false =>
      have HI0 : Hid ((if text.size = 0 then [] else [text]) = [text]) := if_neg fun h => by have := HE.out.2 h; cases this
      have hz8 := HB8.out.size;have hl8 : (LM ++ [s1 ++ (⟨#[46, 32]⟩ : ByteArray) ++ title]).length <= 122000001 := by rw [List.length_append, List.length_singleton]; omega
      obtain ⟨L8, hL8⟩ : ∃ z, LM ++ [s1 ++ (⟨#[46, 32]⟩ : ByteArray) ++ title] = z := ⟨_, rfl⟩;rw [hL8] at HO8 hl8;have HL8 := hI hL8;clear hL8;go_wp2_with (at_builtin; refine wpList_app1 rfl (.tmp 43) (.tmp 46) 45 rfl wn.heap.size 9 16 (.string .empty) info_string rfl Tryz.underlying45 rfl HO8.out rfl rfl (by omega) (by omega) hz8 ?_; rintro v9 w5 hown9 hb9 hs9 hk9)
      have HK9 := hI (hk9 _ _ _ _ _ _ HK8.out.1 HK8.out.2);have HC4 := hI (guest_cell HK9.out.1 (j := 4) rfl (by decide));have HO9 : Hid (OwnS w5 wn.heap.size v9 (L8 ++ [text])) := own_s (n := 0) hown9;have HB9 := hI (HB8.out.trans hb9);clear hown9 hb9 hk9;go_wp2;go_meet
      exact ⟨(by rw [HI0.out, HL8.out]; exact HO9.out), HC4, HB9⟩
    case rest =>
     obtain ⟨HO9, HC4, HB9⟩ := hcut;obtain ⟨w5, hw5⟩ : ∃ w5, wc = w5 := ⟨_, rfl⟩;rw [hw5] at HO9 HC4 HB9 |-;clear hw5 HO8 HB8 HK8 c2 HAP HS8;have c4 := HC4.out
     have hl9 : (LM ++ [s1 ++ (⟨#[46, 32]⟩ : ByteArray) ++ title] ++ (if text.size = 0 then [] else [text])).length <= 122000002 := by
      rw [List.length_append, List.length_append, List.length_singleton];split <;> simp <;> omega
     obtain ⟨M0, hM0⟩ : ∃ z, LM ++ [s1 ++ (⟨#[46, 32]⟩ : ByteArray) ++ title] ++ (if text.size = 0 then [] else [text]) = z := ⟨_, rfl⟩;have HM0 := hI hM0;rw [hM0] at HO9 hl9;clear hM0;go_wp2_with fail
     go_loopw [7, 13, 14, 15, 17, 51] (fun v7 v13 v14 v15 v17 v51 wi => ∃ j : Nat, j <= rn /\ v51 = .int .i64 j /\ Hid (OwnS wi wn.heap.size v7 (M0 ++ (refs.take j).flatMap (refL out D WD))) /\ Hid (Below wn.heap.size wn wi)) (fun _ _ _ _ _ v51 _ => rn - (intOf v51).toNat)
     case atStart => exact ⟨0, Nat.zero_le _, rfl, (by rw [List.take_zero, List.flatMap_nil, List.append_nil]; exact HO9.out), HB9.out⟩
     case round =>
      clear HO9 HC4 c4 HB9 HB2 HB3;obtain ⟨j, hj, rfl, HO, HB4⟩ := hrel;obtain ⟨w6, hw6⟩ : ∃ w6, wr = w6 := ⟨_, rfl⟩;rw [hw6] at HO HB4 |-;clear hw6;have hz6 := HB4.out.size;by_cases hjt : j < rn
      ·have hjz : (j : Int) < (rn : Int) := by omega
       have hjA : (0 : Int) <= (j : Int) := by omega
       obtain ⟨bd, r, rfl, hbb, hr, hrc⟩ := HRFS.out.at_ hjt;obtain ⟨q0, q1⟩ := hrc w6 (HBW.out _ HB4.out);have HJT := hI hjt;have HROr : Hid (RfOk r) := HROK.out r (List.mem_of_getElem? hr);have HNXR := hI (flat_next (refL out D WD) hr)
       have hml : (M0 ++ (refs.take j).flatMap (refL out D WD)).length <= 123000000 := by
        have h1 := HFL.out (refs.take j);have h2 : (refs.take j).length * 121 <= 1000 * 121 := Nat.mul_le_mul_right 121 (by have := HRN.out; rw [List.length_take]; omega);rw [List.length_append];omega
       obtain ⟨ML, hML⟩ : ∃ z, M0 ++ (refs.take j).flatMap (refL out D WD) = z := ⟨_, rfl⟩;have HML := hI hML;rw [hML] at HO hml;obtain ⟨r1, r2⟩ := r;have hr12 := HROr.out.rng;simp only at q0 q1 hr12;have hRL : refL out D WD (r1, r2) = ((⟨#[32, 32, 40]⟩ : ByteArray) ++ itoaB (numR out (r1, r2)) ++ (⟨#[41, 32, 91]⟩ : ByteArray) ++ itoaB r1 ++ (⟨#[46]⟩ : ByteArray) ++ itoaB r2 ++ (⟨#[93]⟩ : ByteArray)) :: (exC WD (docF D r1) r2).map indB := rfl;rw [hRL] at HNXR;obtain ⟨rp, hrp⟩ : ∃ rp, w6.heap.size = rp := ⟨_, rfl⟩;obtain ⟨W6, hW6⟩ : ∃ W6, w6.alloc (.cells #[.int .i64 r1, .int .i64 r2] 24) = W6 := ⟨_, rfl⟩;have hzW6 : W6.heap.size = rp + 1 := by rw [<- hW6, <- hrp]; simp
       have HO6 : Hid (OwnS W6 wn.heap.size u7 ML) := by rw [<- hW6]; exact World.ownsRow.alloc HO.out _
       have HGR : Hid (W6.ownsRow 0 24 2 (.slice (some ⟨rp, 0, none⟩) 1 1) 1 [.int .i64 r1, .int .i64 r2]) := by rw [<- hW6, <- hrp]; exact guest_made w6 _ _ _ rfl 2 rfl
       have HAR : Hid (Apart (.slice (some ⟨rp, 0, none⟩) 1 1) u7) := fun b2 hb2 he => by
        have h1 := (World.ownsRow.lt HO.out b2 he).2;simp [Value.ownBlock] at hb2
        omega
       have HB5 : Hid (Below wn.heap.size wn W6) := by rw [<- hW6]; exact HB4.out.alloc HB4.out.size _
       have HRR : Hid (∀ W, Below W6.heap.size W6 W -> W.rangeAt rp 0 [.int .i64 r1, .int .i64 r2]) := fun W hW => by
        intro k v hv;rw [Nat.zero_add];exact guest_cell (own_below HGR.out hW) hv (by have := (List.getElem?_eq_some_iff.1 hv).1; simpa using this)
       have HNM : Hid (∀ W, Below W6.heap.size W6 W -> NumM W b out) := fun W hW => HN1.out.below (HB5.out.trans (hW.mono HB5.out.size)) hbB
       have HRO : Hid (RfOk (r1, r2)) := HROr.out;have hnr := numR_range out (r1, r2);have hol := HOL.out;have HT1 := hI fun (W : World) (hW : Below W6.heap.size W6 W) => HNT.out W (HBW.out _ (HB5.out.trans (hW.mono HB5.out.size))) (numR out (r1, r2)) (by omega) (by omega)
       have HT2 := hI fun (W : World) (hW : Below W6.heap.size W6 W) => HNT.out W (HBW.out _ (HB5.out.trans (hW.mono HB5.out.size))) r1 hr12.1.1 hr12.1.2
       have HT3 := hI fun (W : World) (hW : Below W6.heap.size W6 W) => HNT.out W (HBW.out _ (HB5.out.trans (hW.mono HB5.out.size))) r2 hr12.2.1 hr12.2.2
       have hz1 := itoaB_sz (n := numR out (r1, r2)) (by omega) (by omega);have hz2 := itoaB_sz hr12.1.1 hr12.1.2;have hz3 := itoaB_sz hr12.2.1 hr12.2.2;obtain ⟨t1, ht1⟩ : ∃ z, itoaB (numR out (r1, r2)) = z := ⟨_, rfl⟩;obtain ⟨t2, ht2⟩ : ∃ z, itoaB r1 = z := ⟨_, rfl⟩;obtain ⟨t3, ht3⟩ : ∃ z, itoaB r2 = z := ⟨_, rfl⟩;rw [ht1] at HT1 hz1 HNXR;rw [ht2] at HT2 hz2 HNXR;rw [ht3] at HT3 hz3 HNXR;have hn1 : ¬ 9223372036854775807 < 3 + t1.size := by omega
       have hn2 : ¬ 9223372036854775807 < 3 + t1.size + 3 := by omega
       have hn3 : ¬ 9223372036854775807 < 3 + t1.size + 3 + t2.size := by omega
       have hn4 : ¬ 9223372036854775807 < 3 + t1.size + 3 + t2.size + 1 := by omega
       have hn5 : ¬ 9223372036854775807 < 3 + t1.size + 3 + t2.size + 1 + t3.size := by omega
       have hn6 : ¬ 9223372036854775807 < 3 + t1.size + 3 + t2.size + 1 + t3.size + 1 := by omega
       have HDOC0 := hI fun (W : World) (hW : Below wn.heap.size wn W) => HDP.out W (HBW.out _ hW) r1
       have HEL2 := HEL.out r1 r2;have HES2 := hI (HES.out r1 r2);obtain ⟨od, hod⟩ : ∃ od, docF D r1 = od := ⟨_, rfl⟩;have HOD := hI hod;rw [hod] at HNXR HDOC0 HEL2 HES2;clear hr hrc HO hML hRL ht1 ht2 ht3 hod hbb hnr hol hr12;go_upto_region 12 with fail
       (try rw [hW6])
       (try rw [hrp])
       clear hW6 hrp q0 q1;refine wp_region_toldT 18 [Told.is (u7), Told.is (.map (some b)), Told.is (.agg #[.int .i64 r1, .int .i64 r2]), Told.is (.int .i64 (numR out (r1, r2))), Told.is (.string t1), Told.is (.string ((⟨#[32, 32, 40]⟩ : ByteArray) ++ t1)), Told.is (.string ((⟨#[32, 32, 40]⟩ : ByteArray) ++ t1 ++ (⟨#[41, 32, 91]⟩ : ByteArray))), Told.is (.pointer (some ⟨rp, 0, none⟩)), Told.is (.int .i64 r1), Told.is (.string t2), Told.is (.string ((⟨#[32, 32, 40]⟩ : ByteArray) ++ t1 ++ (⟨#[41, 32, 91]⟩ : ByteArray) ++ t2)), Told.is (.string ((⟨#[32, 32, 40]⟩ : ByteArray) ++ t1 ++ (⟨#[41, 32, 91]⟩ : ByteArray) ++ t2 ++ (⟨#[46]⟩ : ByteArray))), Told.is (.pointer (some ⟨rp, 1, none⟩)), Told.is (.int .i64 r2), Told.is (.string t3), Told.is (.string ((⟨#[32, 32, 40]⟩ : ByteArray) ++ t1 ++ (⟨#[41, 32, 91]⟩ : ByteArray) ++ t2 ++ (⟨#[46]⟩ : ByteArray) ++ t3)), Told.is (.string ((⟨#[32, 32, 40]⟩ : ByteArray) ++ t1 ++ (⟨#[41, 32, 91]⟩ : ByteArray) ++ t2 ++ (⟨#[46]⟩ : ByteArray) ++ t3 ++ (⟨#[93]⟩ : ByteArray))), Told.such (fun v W => ∃ A, v = .slice A 1 1 /\ SR W W.heap.size A 1 [(⟨#[32, 32, 40]⟩ : ByteArray) ++ t1 ++ (⟨#[41, 32, 91]⟩ : ByteArray) ++ t2 ++ (⟨#[46]⟩ : ByteArray) ++ t3 ++ (⟨#[93]⟩ : ByteArray)]) (fun v W W' ⟨A, h1, h2⟩ hb => ⟨A, h1, Reads.on h2 hb⟩)] (by kernel_rfl) (by kernel_rfl) ?_ ?_
       ·simp only [List.take_succ_cons, List.take_zero];refine And.intro (fun w1 vals hB hd K hK => ?_) ?_
        ·clear hd;simp only [putAll, Act.put, pS] at hK |-;refine gwp_none rfl ?_;go_simp;exact hK _ _ rfl bR
        refine And.intro (fun w1 vals hB hd K hK => ?_) ?_
        ·clear hd;simp only [putAll, Act.put, pS] at hK |-;refine gwp_none rfl ?_;go_simp;exact hK _ _ rfl bR
        refine And.intro (fun w1 vals hB hd K hK => ?_) ?_
        ·clear hd;simp only [putAll, Act.put, pS] at hK |-;refine gwp_none rfl ?_;refine wp_load_mid 24 (.tmp 13) rfl rp 0 rfl [.int .i64 r1, .int .i64 r2] _ (HRR.out w1 hB) Tryz.underlying24 rfl (by kernel_rfl) ?_;simp only [Act.put, pS];exact hK _ _ rfl bR
        refine And.intro (fun w1 vals hB hd K hK => ?_) ?_
        ·have e1 := tI (hd 1 rfl) rfl;have e2 := tI (hd 2 rfl) rfl;clear hd;simp only [putAll, Act.put, pS] at hK |-;simp only [e1, e2] at hK |-;clear e1 e2;refine gwp_none rfl ?_;refine wp_lookup_num (.tmp 56) (.tmp 57) rfl b out rfl (HNM.out w1 hB) (r1, r2) HRO.out rfl ?_;simp only [Act.put, pS];exact hK _ _ rfl bR
        refine And.intro (fun w1 vals hB hd K hK => ?_) ?_
        ·have e3 := tI (hd 3 rfl) rfl;clear hd;simp only [putAll, Act.put, pS] at hK |-;simp only [e3] at hK |-;clear e3;refine gwp_none rfl ?_;go_simp;refine (HT1.out w1 hB).mono ?_;rintro e w4 ⟨rfl, hb4⟩;exact hK _ _ rfl hb4
        refine And.intro (fun w1 vals hB hd K hK => ?_) ?_
        ·have e4 := tI (hd 4 rfl) rfl;clear hd;simp only [putAll, Act.put, pS] at hK |-;simp only [e4] at hK |-;clear e4;refine gwp_none rfl ?_;go_simp;exact hK _ _ rfl bR
        refine And.intro (fun w1 vals hB hd K hK => ?_) ?_
        ·have e5 := tI (hd 5 rfl) rfl;clear hd;simp only [putAll, Act.put, pS] at hK |-;simp only [e5] at hK |-;clear e5;refine gwp_none rfl ?_;go_simp;exact hK _ _ rfl bR
        refine And.intro (fun w1 vals hB hd K hK => ?_) ?_
        ·clear hd;simp only [putAll, Act.put, pS] at hK |-;refine gwp_none rfl ?_;go_simp;exact hK _ _ rfl bR
        refine And.intro (fun w1 vals hB hd K hK => ?_) ?_
        ·have e7 := tI (hd 7 rfl) rfl;clear hd;simp only [putAll, Act.put, pS] at hK |-;simp only [e7] at hK |-;clear e7;refine gwp_none rfl ?_;have c1 := HRR.out w1 hB 0 _ rfl;go_simp;exact hK _ _ rfl bR
        refine And.intro (fun w1 vals hB hd K hK => ?_) ?_
        ·have e8 := tI (hd 8 rfl) rfl;clear hd;simp only [putAll, Act.put, pS] at hK |-;simp only [e8] at hK |-;clear e8;refine gwp_none rfl ?_;go_simp;refine (HT2.out w1 hB).mono ?_;rintro e w4 ⟨rfl, hb4⟩;exact hK _ _ rfl hb4
        refine And.intro (fun w1 vals hB hd K hK => ?_) ?_
        ·have e6 := tI (hd 6 rfl) rfl;have e9 := tI (hd 9 rfl) rfl;clear hd;simp only [putAll, Act.put, pS] at hK |-;simp only [e6, e9] at hK |-;clear e6 e9;refine gwp_none rfl ?_;go_simp;exact hK _ _ rfl bR
        refine And.intro (fun w1 vals hB hd K hK => ?_) ?_
        ·have e10 := tI (hd 10 rfl) rfl;clear hd;simp only [putAll, Act.put, pS] at hK |-;simp only [e10] at hK |-;clear e10;refine gwp_none rfl ?_;go_simp;exact hK _ _ rfl bR
        refine And.intro (fun w1 vals hB hd K hK => ?_) ?_
        ·clear hd;simp only [putAll, Act.put, pS] at hK |-;refine gwp_none rfl ?_;go_simp;exact hK _ _ rfl bR
        refine And.intro (fun w1 vals hB hd K hK => ?_) ?_
        ·have e12 := tI (hd 12 rfl) rfl;clear hd;simp only [putAll, Act.put, pS] at hK |-;simp only [e12] at hK |-;clear e12;refine gwp_none rfl ?_;have c1 := HRR.out w1 hB 1 _ rfl;go_simp;exact hK _ _ rfl bR
        refine And.intro (fun w1 vals hB hd K hK => ?_) ?_
        ·have e13 := tI (hd 13 rfl) rfl;clear hd;simp only [putAll, Act.put, pS] at hK |-;simp only [e13] at hK |-;clear e13;refine gwp_none rfl ?_;go_simp;refine (HT3.out w1 hB).mono ?_;rintro e w4 ⟨rfl, hb4⟩;exact hK _ _ rfl hb4
        refine And.intro (fun w1 vals hB hd K hK => ?_) ?_
        ·have e11 := tI (hd 11 rfl) rfl;have e14 := tI (hd 14 rfl) rfl;clear hd;simp only [putAll, Act.put, pS] at hK |-;simp only [e11, e14] at hK |-;clear e11 e14;refine gwp_none rfl ?_;go_simp;exact hK _ _ rfl bR
        refine And.intro (fun w1 vals hB hd K hK => ?_) ?_
        ·have e15 := tI (hd 15 rfl) rfl;clear hd;simp only [putAll, Act.put, pS] at hK |-;simp only [e15] at hK |-;clear e15;refine gwp_none rfl ?_;go_simp;exact hK _ _ rfl bR
        refine And.intro (fun w1 vals hB hd K hK => ?_) ?_
        ·have e16 := tI (hd 16 rfl) rfl;clear hd;simp only [putAll, Act.put, pS] at hK |-;simp only [e16] at hK |-;clear e16;refine gwp_none rfl ?_;go_simp;exact hK _ _ ⟨_, rfl, sr_new w1 9 [(⟨#[32, 32, 40]⟩ : ByteArray) ++ t1 ++ (⟨#[41, 32, 91]⟩ : ByteArray) ++ t2 ++ (⟨#[46]⟩ : ByteArray) ++ t3 ++ (⟨#[93]⟩ : ByteArray)] _ rfl 1 rfl⟩ (bR.alloc (Nat.le_refl _) _)
        exact trivial
       ·intro w1 vals hB hd;have e0 := tI (hd 0 (by decide) (by decide)) rfl;have p17 := told_at (hd 17 (by decide) (by decide)) rfl;simp only [Told.holds] at p17;obtain ⟨x17, hx17⟩ : ∃ x, vals 17 = x := ⟨_, rfl⟩;rw [hx17] at p17;clear hd;simp only [List.take_succ_cons, List.take_zero, List.drop_succ_cons, List.drop_zero];simp only [putAll, Act.put, pS];simp only [e0, hx17];clear e0 hx17;obtain ⟨A8, rfl, hs8⟩ := p17;have HS8 := hI hs8;have HO7 := hI (HO6.out.on hB);have HG7 := hI (own_below HGR.out hB);have HB7 : Hid (Below wn.heap.size wn w1) := HB5.out.trans (hB.mono HB5.out.size);have hz7 := HB7.out.size;clear hs8 hB HT1 HT2 HT3 HRR HNM HO6 HGR hn1 hn2 hn3 hn4 hn5 hn6
        cases od with
        | none =>
         have hdz : docFV none = .tuple #[.agg #[.int .i64 0, .string ⟨#[]⟩, .int .i64 0, .int .i64 0, .slice none 0 0, .slice none 0 0, .slice none 0 0], .bool false] := rfl;rw [hdz] at HDOC0;go_wp2_with (at_builtin; refine wpList_app rfl (.tmp 55) (.tmp 72) 45 rfl wn.heap.size 9 16 (.string .empty) info_string rfl Tryz.underlying45 rfl HO7.out (A := A8) (m := 1) (c := 1) rfl HS8.out (one_strG _) (by omega) (by omega) hz7 ?_; intro v8 w4 hown8 hg8 hat8; have HK8 := hI (own_kept HG7.out hg8 HAR.out hat8); have HO8 : Hid (OwnS w4 wn.heap.size v8 (ML ++ [(⟨#[32, 32, 40]⟩ : ByteArray) ++ t1 ++ (⟨#[41, 32, 91]⟩ : ByteArray) ++ t2 ++ (⟨#[46]⟩ : ByteArray) ++ t3 ++ (⟨#[93]⟩ : ByteArray)])) := own_s (n := 0) hown8; have HB8 : Hid (Below wn.heap.size wn w4) := below_app HB7.out HO7.out hg8 (Nat.le_refl _) hz7; clear hown8 hg8 hat8 HO7 HG7 HB7; have c0 : w4.cell? ⟨rp, 0, none⟩ = some (.int .i64 r1) := guest_cell HK8.out.1 (j := 0) rfl (by decide); have c1 : w4.cell? ⟨rp, 1, none⟩ = some (.int .i64 r2) := guest_cell HK8.out.1 (j := 1) rfl (by decide))
         refine (HDOC0.out _ HB8.out).mono ?_;rintro e w7 ⟨rfl, hb7⟩;have hb7' := hb7.alloc hb7.size (.cells #[.int .i64 0, .string ⟨#[]⟩, .int .i64 0, .int .i64 0, .slice none 0 0, .slice none 0 0, .slice none 0 0] 38);have HO9 := hI (HO8.out.on hb7');have HB9 := hI (HB8.out.trans (hb7'.mono HB8.out.size))
         have HMR : Hid (M0 ++ (refs.take (j + 1)).flatMap (refL out D WD) = ML ++ [(⟨#[32, 32, 40]⟩ : ByteArray) ++ t1 ++ (⟨#[41, 32, 91]⟩ : ByteArray) ++ t2 ++ (⟨#[46]⟩ : ByteArray) ++ t3 ++ (⟨#[93]⟩ : ByteArray)]) := by
          show _ = _;rw [HNXR.out, <- List.append_assoc, HML.out];rfl
         clear hb7 hb7' c0 c1 HK8 HO8 HB8;go_wp2;go_roundw
         case rel =>
          first
           | exact ⟨j + 1, HJT.out, by go_num, (by rw [HMR.out]; exact HO9), HB9⟩
           | ((repeat apply Exists.intro); refine ⟨?_, rfl⟩; exact ⟨j + 1, HJT.out, by go_num, (by rw [HMR.out]; exact HO9), HB9⟩)
         case measure => have := HJT.out; simp [intOf]; omega
        | some x =>
         have hdz : docFV (some x) = .tuple #[.agg #[.int .i64 x.d.rid, .string x.d.name, .int .i64 x.d.len, .int .i64 x.d.day, .slice x.d.sa x.d.sn x.d.sc, .slice x.d.ta x.d.tn x.d.tc, .slice x.d.na x.d.nn x.d.nc], .bool true] := rfl;rw [hdz] at HDOC0;have hxm := (docF_mem HOD.out).1;have HEXX := hI fun (W : World) (hW : Below wn.heap.size wn W) => HEX.out x hxm W (HBW.out _ hW) r2
         unfold docV at HEXX;have hexc : exC WD (some x) r2 = exL x.T x.l r2 x.T.length WD := rfl;rw [hexc] at HNXR HEL2 HES2;obtain ⟨E, hE⟩ : ∃ z, exL x.T x.l r2 x.T.length WD = z := ⟨_, rfl⟩;rw [hE] at HNXR HEL2 HES2 HEXX;have hE120 : E.length <= 120 := HEL2;clear hxm hexc hE HEL2;go_wp2_with (at_builtin; refine wpList_app rfl (.tmp 55) (.tmp 72) 45 rfl wn.heap.size 9 16 (.string .empty) info_string rfl Tryz.underlying45 rfl HO7.out (A := A8) (m := 1) (c := 1) rfl HS8.out (one_strG _) (by omega) (by omega) hz7 ?_; intro v8 w4 hown8 hg8 hat8; have HK8 := hI (own_kept HG7.out hg8 HAR.out hat8); have HO8 : Hid (OwnS w4 wn.heap.size v8 (ML ++ [(⟨#[32, 32, 40]⟩ : ByteArray) ++ t1 ++ (⟨#[41, 32, 91]⟩ : ByteArray) ++ t2 ++ (⟨#[46]⟩ : ByteArray) ++ t3 ++ (⟨#[93]⟩ : ByteArray)])) := own_s (n := 0) hown8; have HB8 : Hid (Below wn.heap.size wn w4) := below_app HB7.out HO7.out hg8 (Nat.le_refl _) hz7; clear hown8 hg8 hat8 HO7 HG7 HB7; have c0 : w4.cell? ⟨rp, 0, none⟩ = some (.int .i64 r1) := guest_cell HK8.out.1 (j := 0) rfl (by decide))
         refine (HDOC0.out _ HB8.out).mono ?_;rintro e w7 ⟨rfl, hb7⟩;obtain ⟨dp, hdp⟩ : ∃ dp, w7.heap.size = dp := ⟨_, rfl⟩;obtain ⟨W7, hW7⟩ : ∃ W7, w7.alloc (.cells #[.int .i64 x.d.rid, .string x.d.name, .int .i64 x.d.len, .int .i64 x.d.day, .slice x.d.sa x.d.sn x.d.sc, .slice x.d.ta x.d.tn x.d.tc, .slice x.d.na x.d.nn x.d.nc] 38) = W7 := ⟨_, rfl⟩;have hzW7 : W7.heap.size = dp + 1 := by rw [<- hW7, <- hdp]; simp
         have hb7' : Below w4.heap.size w4 W7 := by rw [<- hW7]; exact hb7.alloc hb7.size _
         have HO9 := hI (HO8.out.on hb7');have HB9 := hI (HB8.out.trans (hb7'.mono HB8.out.size));have c1 : W7.cell? ⟨rp, 1, none⟩ = some (.int .i64 r2) := guest_cell (own_below HK8.out.1 hb7') (j := 1) rfl (by decide);have k0 : W7.cell? ⟨dp, 0, none⟩ = some (.int .i64 x.d.rid) := by rw [<- hW7, <- hdp, World.cell?_alloc_new]; rfl
         have k1 : W7.cell? ⟨dp, 1, none⟩ = some (.string x.d.name) := by rw [<- hW7, <- hdp, World.cell?_alloc_new]; rfl
         have k2 : W7.cell? ⟨dp, 2, none⟩ = some (.int .i64 x.d.len) := by rw [<- hW7, <- hdp, World.cell?_alloc_new]; rfl
         have k3 : W7.cell? ⟨dp, 3, none⟩ = some (.int .i64 x.d.day) := by rw [<- hW7, <- hdp, World.cell?_alloc_new]; rfl
         have k4 : W7.cell? ⟨dp, 4, none⟩ = some (.slice x.d.sa x.d.sn x.d.sc) := by rw [<- hW7, <- hdp, World.cell?_alloc_new]; rfl
         have k5 : W7.cell? ⟨dp, 5, none⟩ = some (.slice x.d.ta x.d.tn x.d.tc) := by rw [<- hW7, <- hdp, World.cell?_alloc_new]; rfl
         have k6 : W7.cell? ⟨dp, 6, none⟩ = some (.slice x.d.na x.d.nn x.d.nc) := by rw [<- hW7, <- hdp, World.cell?_alloc_new]; rfl
         have HEC := hI (HEXX.out _ HB9.out);clear hb7 hb7' c0 HK8 HO8 HB8 HDOC0 HEXX;go_upto_region 14 with fail
         (try rw [hW7])
         (try rw [hdp])
         clear hW7 hdp;go_wp2_with fail
         refine HEC.out.mono ?_;rintro e w8 ⟨vE, rfl, hOE, hb8⟩;obtain ⟨AE, cE, hvE, hEa, hEb, hEr⟩ := OwnS.form hOE;subst hvE;have HO10 := hI (HO9.out.on hb8);have HB10 := hI (HB9.out.trans (hb8.mono HB9.out.size));have HOE := hI hOE
         have HAE : Hid (Apart (.slice AE E.length cE) v8) := fun b2 hb2 he => by
          have h1 := (hOE.lt b2 hb2).1;have h2 := (World.ownsRow.lt HO9.out b2 he).2;omega
         clear hOE hb8 hEa hEb hEr c1 k0 k1 k2 k3 k4 k5 k6 HEC HO9 HB9;go_wp2_with fail
         go_loopw [7, 17, 89] (fun v7 v17 v89 wq => ∃ q : Nat, q <= E.length /\ v89 = .int .i64 q /\ Hid (OwnS wq wn.heap.size v7 (ML ++ [(⟨#[32, 32, 40]⟩ : ByteArray) ++ t1 ++ (⟨#[41, 32, 91]⟩ : ByteArray) ++ t2 ++ (⟨#[46]⟩ : ByteArray) ++ t3 ++ (⟨#[93]⟩ : ByteArray)] ++ (E.take q).map indB)) /\ Hid (OwnS wq W7.heap.size (.slice AE E.length cE) E) /\ Hid (Apart (.slice AE E.length cE) v7) /\ Hid (Below wn.heap.size wn wq)) (fun _ _ v89 _ => E.length - (intOf v89).toNat)
         case atStart => exact ⟨0, Nat.zero_le _, rfl, (by rw [List.take_zero, List.map_nil, List.append_nil]; exact HO10.out), HOE.out, HAE.out, HB10.out⟩
         case round =>
          clear HO10 HOE HAE HB10;obtain ⟨q, hq, rfl, HO, HOE, HAE, HB11⟩ := hrel;obtain ⟨w9, hw9⟩ : ∃ w9, wr = w9 := ⟨_, rfl⟩;rw [hw9] at HO HOE HB11 |-;clear hw9;have hz9 := HB11.out.size;by_cases hqt : q < E.length
          ·have hqz : (q : Int) < (E.length : Int) := by omega
           have hqA : (0 : Int) <= (q : Int) := by omega
           obtain ⟨A9, c9, hv9, _, _, h9r⟩ := OwnS.form HOE.out;injection hv9 with hA9 _ hc9
           rw [<- hA9] at h9r;obtain ⟨be, s, hAE, hbe, hse, hce⟩ := h9r.at_ hqt;subst hAE;have HQT := hI hqt;have HNQ := hI (map_nextB indB hse);have hss := HES2.out s (List.mem_of_getElem? hse);have HIN := hI (indented_any s w9 (by omega))
           have hql : (ML ++ [(⟨#[32, 32, 40]⟩ : ByteArray) ++ t1 ++ (⟨#[41, 32, 91]⟩ : ByteArray) ++ t2 ++ (⟨#[46]⟩ : ByteArray) ++ t3 ++ (⟨#[93]⟩ : ByteArray)] ++ (E.take q).map indB).length <= 123000200 := by
            rw [List.length_append, List.length_append, List.length_map, List.length_take, List.length_singleton];omega
           obtain ⟨QL, hQL⟩ : ∃ z, ML ++ [(⟨#[32, 32, 40]⟩ : ByteArray) ++ t1 ++ (⟨#[41, 32, 91]⟩ : ByteArray) ++ t2 ++ (⟨#[46]⟩ : ByteArray) ++ t3 ++ (⟨#[93]⟩ : ByteArray)] ++ (E.take q).map indB = z := ⟨_, rfl⟩;have HQL := hI hQL;rw [hQL] at HO hql;clear hA9 hc9 h9r hbe hse hQL hss
           go_wp2_with (first
            | (with_reducible refine HIN.out.mono ?_; rintro e wx ⟨rfl, rfl⟩)
            | (at_builtin; refine wpList_app1 rfl (.tmp 93) (.tmp 96) 45 rfl wn.heap.size 9 16 (.string .empty) info_string rfl Tryz.underlying45 rfl HO.out rfl rfl (by omega) (by omega) hz9 ?_; rintro v9 w10 hown9 hb9 hs9 hk9))
           obtain ⟨hE10, hA10⟩ := hk9 _ _ _ _ _ _ HOE.out HAE.out;have HE10 := hI hE10;have HA10 := hI hA10;have HO11 : Hid (OwnS w10 wn.heap.size v9 (QL ++ [indB s])) := own_s (n := 0) hown9;have HB12 := hI (HB11.out.trans hb9)
           have HQ2 : Hid (ML ++ [(⟨#[32, 32, 40]⟩ : ByteArray) ++ t1 ++ (⟨#[41, 32, 91]⟩ : ByteArray) ++ t2 ++ (⟨#[46]⟩ : ByteArray) ++ t3 ++ (⟨#[93]⟩ : ByteArray)] ++ (E.take (q + 1)).map indB = QL ++ [indB s]) := by
            show _ = _;rw [HNQ.out, <- List.append_assoc, HQL.out]
           rw [<- HQ2.out] at HO11;clear hown9 hb9 hk9 hE10 hA10;go_wp2;go_roundw
           case rel =>
            first
             | exact ⟨q + 1, HQT.out, by go_num, HO11, HE10, HA10, HB12⟩
             | ((repeat apply Exists.intro); refine ⟨?_, rfl⟩; exact ⟨q + 1, HQT.out, by go_num, HO11, HE10, HA10, HB12⟩)
           case measure => have := HQT.out; simp [intOf]; omega
          ·obtain rfl : q = E.length := by omega
           have hqz : ¬ (E.length : Int) < (E.length : Int) := by omega
           rw [List.take_length] at HO
           have HMR : Hid (M0 ++ (refs.take (j + 1)).flatMap (refL out D WD) = ML ++ [(⟨#[32, 32, 40]⟩ : ByteArray) ++ t1 ++ (⟨#[41, 32, 91]⟩ : ByteArray) ++ t2 ++ (⟨#[46]⟩ : ByteArray) ++ t3 ++ (⟨#[93]⟩ : ByteArray)] ++ E.map indB) := by
            show _ = _;rw [HNXR.out, <- List.append_assoc, HML.out, List.append_assoc];rfl
           rw [<- HMR.out] at HO;go_wp2;go_roundw
           case rel =>
            first
             | exact ⟨j + 1, HJT.out, by go_num, HO, HB11⟩
             | ((repeat apply Exists.intro); refine ⟨?_, rfl⟩; exact ⟨j + 1, HJT.out, by go_num, HO, HB11⟩)
           case measure => have := HJT.out; simp [intOf]; omega
      ·obtain rfl : j = rn := by omega
       have hjz : ¬ (j : Int) < (j : Int) := by omega
       have HRE : Hid (refs.take j = refs) := List.take_of_length_le (by rw [HRFS.out.len]; exact Nat.le_refl _);rw [HRE.out] at HO
       have HLN : Hid (linesM out D WD L (i + 1) = M0 ++ refs.flatMap (refL out D WD)) := by
        show _ = _;rw [HNXT.out, <- HM0.out];simp
       rw [<- HLN.out] at HO;go_wp2;go_roundw
       case rel =>
        first
         | exact ⟨i + 1, HLT.out, by go_num, HO, HB4⟩
         | ((repeat apply Exists.intro); refine ⟨?_, rfl⟩; exact ⟨i + 1, HLT.out, by go_num, HO, HB4⟩)
       case measure => have := HLT.out; simp [intOf]; omega
  ·obtain rfl : i = m := by omega
   have hiz : ¬ (i : Int) < (i : Int) := by omega
   rw [<- HPL.out] at HO;go_wp2;go_ret;exact ⟨_, rfl, own_base HO.out (by omega), HBW.out _ HB2.out⟩
set_option maxHeartbeats 2000000 in
theorem gnumbers_any (A : Option Addr) (n c : Nat) (L : List Pt) (w : World) (hP : PtsR w w.heap.size A n L) (hn : n <= 1000000) (hz : (allR L).length <= 1000000) :
  Calls Tryz.prog 13 #[.slice A n c] w fun e w' => ∃ v, e = .returned v /\ RfO w' w.heap.size v (numsF [] (allR L)) /\ Below w.heap.size w w' := by
 have HC := hI (numbers_any A n c L w hP hn hz);clear hP hz;go_enter Tryz.func13, Tryz.ntmps13
 go_wp2_with fail
 refine HC.out.mono ?_;rintro e w1 ⟨v, b, rfl, hO, hN, hB⟩;have HO := hI hO;have HB := hI hB;clear hO hN hB;go_wp2;go_ret;exact ⟨_, rfl, HO.out, HB.out⟩
set_option maxHeartbeats 2000000 in
theorem gnumber_any (A : Option Addr) (n c : Nat) (L : List Pt) (r1 r2 : Int) (w : World) (hP : PtsR w w.heap.size A n L) (hr : RfOk (r1, r2)) (hn : n <= 1000000) (hz : (allR L).length <= 1000000) :
  Calls Tryz.prog 15 #[.slice A n c, .agg #[.int .i64 r1, .int .i64 r2]] w fun e w' => e = .returned (.int .i64 (numR (numsF [] (allR L)) (r1, r2))) /\ Below w.heap.size w w' := by
 obtain ⟨W0, hW0⟩ : ∃ W0, w.alloc (.cells #[.int .i64 r1, .int .i64 r2] 24) = W0 := ⟨_, rfl⟩;have HB0 : Hid (Below w.heap.size w W0) := by rw [<- hW0]; exact (Below.refl _ w).alloc (Nat.le_refl _) _
 have HC := hI (numbers_any A n c L W0 (hP.on HB0.out) hn hz);have HK0 : Hid (W0.cell? ⟨w.heap.size, 0, none⟩ = some (.int .i64 r1)) := by rw [<- hW0, World.cell?_alloc_new]; rfl
 have HK1 : Hid (W0.cell? ⟨w.heap.size, 1, none⟩ = some (.int .i64 r2)) := by rw [<- hW0, World.cell?_alloc_new]; rfl
 have hz0 : W0.heap.size = w.heap.size + 1 := by rw [<- hW0]; simp
 have HR := hI hr;obtain ⟨nl, hnl⟩ : ∃ nl, numsF [] (allR L) = nl := ⟨_, rfl⟩;rw [hnl];have HNL := hI hnl;clear hP hz hr hnl;go_enter Tryz.func15, Tryz.ntmps15
 go_wp2_with fail
 (try rw [hW0])
 clear hW0;refine HC.out.mono ?_;rintro e w1 ⟨v, b, rfl, hO, hN, hB⟩;have HN := hI hN;have HB := hI hB;have k0 : w1.cell? ⟨w.heap.size, 0, none⟩ = some (.int .i64 r1) := (hB.cell (by show w.heap.size < _; omega)).trans HK0.out;have k1 : w1.cell? ⟨w.heap.size, 1, none⟩ = some (.int .i64 r2) := (hB.cell (by show w.heap.size < _; omega)).trans HK1.out;have HBW : Hid (Below w.heap.size w w1) := HB0.out.trans (hB.mono (by omega));rw [HNL.out] at HN;clear hO hN hB HC HNL hz0;go_wp2_with (at_lookup; refine wpList_lookup_num _ rfl (.tmp 12) (.tmp 13) rfl b nl rfl HN.out (r1, r2) HR.out rfl ?_)
 go_ret;exact ⟨rfl, HBW.out⟩
end
section
open Go.RowKit
set_option maxHeartbeats 400000 in
theorem same_strs (A B : Option Addr) (n m c d : Nat) (xs ys : List ByteArray) (w : World) (ha : SR w w.heap.size A n xs) (hb : SR w w.heap.size B m ys)
    (hn : n <= 9223372036854775807) (hm : m <= 9223372036854775807) :
    Calls Tryz.prog 21 #[.slice A n c, .slice B m d] w fun e w' => e = .returned (.bool (decide (xs = ys))) /\ ∃ k, w' = w.drewN k := by
  have hxl : xs.length = n := ha.len;have hyl : ys.length = m := hb.len;by_cases hnm : n = m
  · subst hnm
    have HX := hI hxl; clear hxl
    have HY := hI hyl; clear hyl
    go_enter Tryz.func21, Tryz.ntmps21
    go_wp2;go_loopw [5] (fun i wr => ∃ k : Nat, k <= n /\ i = .int .i64 k /\ Hid (xs.take k = ys.take k) /\ Hid (∃ q, wr = w.drewN q)) (fun i _ => n - (intOf i).toNat)
    case atStart => exact ⟨0, Nat.zero_le _, rfl, rfl, ⟨0, rfl⟩⟩
    case round =>
      obtain ⟨k, hk, rfl, hpre, HZ⟩ := hrel;by_cases hlt : k < n
      · obtain ⟨ad, x, rfl, _, hx, hcx⟩ := ha.at_ hlt
        obtain ⟨bd, y, rfl, _, hy, hcy⟩ := hb.at_ hlt;have HXK := hI hx; clear hx
        have HYK := hI hy; clear hy
        replace hcx : wr.cell? (ad.add k) = _ := cell_z HZ hcx
        replace hcy : wr.cell? (bd.add k) = _ := cell_z HZ hcy
        have hkn : (k : Int) < (n : Int) := by omega
        by_cases hxy : x = y
        · subst hxy
          have HNEXT : Hid (xs.take (k + 1) = ys.take (k + 1)) := take_snoc_eq hpre.out HXK.out HYK.out rfl;go_wp2_with fail
          go_quiet (fail)
          go_wp2;go_roundw
          case rel => exact ⟨k + 1, by omega, by go_num, HNEXT, drew_z HZ _⟩
          case measure => simp [intOf]; omega
        · have hne : (x.toList == y.toList) = false := by
            rw [Lib.toList_data, Lib.toList_data];refine beq_eq_false_iff_ne.2 fun e => hxy ?_
            cases x with | mk d => cases y with | mk e' => cases d with | mk p => cases e' with | mk q => simp at e; rw [e]
          have HRES : Hid (decide (xs = ys) = false) := decide_eq_false fun he => by
            have h1 := HXK.out;rw [he, HYK.out] at h1;injection h1 with h1
            exact hxy h1.symm
          go_wp2_with fail
          go_quiet (fail)
          go_wp2;go_ret;exact ⟨ret_bool HRES.out.symm, drew_z HZ _⟩
      · obtain rfl : n = k := by omega
        have HRES : Hid (decide (xs = ys) = true) := by
          have h1 := hpre.out;rw [List.take_of_length_le (by rw [HX.out]; exact Nat.le_refl _), List.take_of_length_le (by rw [HY.out]; exact Nat.le_refl _)] at h1;exact decide_eq_true h1
        go_wp2;go_ret;exact ⟨ret_bool HRES.out.symm, HZ.out⟩
  · have hd : ((n : Int) != (m : Int)) = true := by rw [bne_iff_ne]; omega
    have HRES : Hid (decide (xs = ys) = false) := decide_eq_false fun he => hnm (by rw [<- hxl, <- hyl, he])
    go_enter Tryz.func21, Tryz.ntmps21
    go_wp2;go_ret;exact ⟨ret_bool HRES.out.symm, 0, rfl⟩
end
section
open Go.RowKit Ru Lay
attribute [local go_sem ↓] Go.wp_at_zero Go.wp_at_succ
theorem take_eq_next {α : Type} {xs ys : List α} {k : Nat} {x y : α} (h : xs.take k = ys.take k) (hx : xs[k]? = some x) (hy : ys[k]? = some y) (e : x = y) : xs.take (k + 1) = ys.take (k + 1) := by
 rw [List.take_add_one, List.take_add_one, h, hx, hy, e]
set_option maxHeartbeats 4000000 in
set_option maxRecDepth 100000 in
theorem rows55_any (A B : Option Addr) (n m c d : Nat) (xs ys : List (List ByteArray)) (w : World) (ha : RowsC w w.heap.size A n xs) (hb : RowsC w w.heap.size B m ys)
  (hn : n <= 9223372036854775807) (hm : m <= 9223372036854775807) :
  Calls Tryz.prog 18 #[.slice A n c, .slice B m d] w fun e w' => e = .returned (.bool (decide (xs = ys))) /\ Below w.heap.size w w' := by
 have hxl : xs.length = n := ha.len;have hyl : ys.length = m := hb.len;by_cases hnm : n = m
 ·subst hnm;have HX := hI hxl;have HY := hI hyl;have HA := hI ha;have HB := hI hb;clear hxl hyl ha hb;go_enter Tryz.func18, Tryz.ntmps18
  go_wp2_with fail
  go_loopw [5, 13] (fun v5 v13 wr => ∃ k : Nat, k <= n /\ v13 = .int .i64 k /\ Hid (xs.take k = ys.take k) /\ Hid (Below w.heap.size w wr)) (fun _ v13 _ => n - (intOf v13).toNat)
  case atStart => exact ⟨0, Nat.zero_le _, rfl, rfl, Below.refl _ _⟩
  case round =>
   obtain ⟨k, hk, rfl, hpre, HZ⟩ := hrel;obtain ⟨w0, hw0⟩ : ∃ w0, wr = w0 := ⟨_, rfl⟩;rw [hw0] at HZ |-;clear hw0;by_cases hlt : k < n
   ·obtain ⟨ad, x, A1, n1, c1, rfl, hab, hx, hcx, hs1, hnc1, hm1⟩ := HA.out.at_ hlt;obtain ⟨bd, y, A2, n2, c2, rfl, hbb, hy, hcy, hs2, hnc2, hm2⟩ := HB.out.at_ hlt;have HXK := hI hx;have HYK := hI hy;have HLT := hI hlt;have HX : Hid (∀ W, Below w0.heap.size w0 W -> W.cell? (ad.add k) = some (.slice A1 n1 c1)) := fun W hW => ((HZ.out.trans (hW.mono HZ.out.size)).cell (by rw [block_of_add]; exact hab)).trans hcx
    have HY : Hid (∀ W, Below w0.heap.size w0 W -> W.cell? (bd.add k) = some (.slice A2 n2 c2)) := fun W hW => ((HZ.out.trans (hW.mono HZ.out.size)).cell (by rw [block_of_add]; exact hbb)).trans hcy
    obtain ⟨bb, hbb2⟩ : ∃ bb, decide (x = y) = bb := ⟨_, rfl⟩;have HBB := hI hbb2
    have HS : Hid (∀ W, Below w0.heap.size w0 W -> Calls Tryz.prog 21 #[.slice A1 n1 c1, .slice A2 n2 c2] W fun e w' => e = .returned (.bool bb) /\ ∃ z, w' = W.drewN z) := fun W hW => by
     have hb0 := HZ.out.trans (hW.mono HZ.out.size);rw [<- hbb2];exact same_strs A1 A2 n1 n2 c1 c2 x y W (Reads.on hs1 hb0) (Reads.on hs2 hb0) (by omega) (by omega)
    have hkn : (k : Int) < (n : Int) := by omega
    have hkA : (0 : Int) <= (k : Int) := by omega
    have hsz := HZ.out.size;clear hx hy hcx hcy hs1 hs2 hbb2;go_upto_region 6 with fail
    refine wp_region_told [Told.is (.slice (some ad) n c), Told.is (.int .i64 (k : Int)), Told.is (.pointer (some (ad.add k))), Told.is (.slice A1 n1 c1), Told.is (.slice (some bd) n d), Told.is (.int .i64 (k : Int)), Told.is (.pointer (some (bd.add k))), Told.is (.slice A2 n2 c2), Told.is (.bool bb), Told.is (.bool (!bb))] (by kernel_rfl) (by kernel_rfl) ?_ ?_
    ·refine And.intro (fun w1 vals hB hd K hK => ?_) ?_
     ·clear hd;simp only [putAll, Act.put, pS] at hK |-;refine gwp_none rfl ?_;go_simp;exact hK _ _ rfl bR
     refine And.intro (fun w1 vals hB hd K hK => ?_) ?_
     ·clear hd;simp only [putAll, Act.put, pS] at hK |-;refine gwp_none rfl ?_;go_simp;exact hK _ _ rfl bR
     refine And.intro (fun w1 vals hB hd K hK => ?_) ?_
     ·have e0 := tI (hd 0 rfl) rfl;have e1 := tI (hd 1 rfl) rfl;clear hd;simp only [putAll, Act.put, pS] at hK |-;simp only [e0, e1] at hK |-;clear e0 e1;refine gwp_none rfl ?_;go_simp;exact hK _ _ rfl bR
     refine And.intro (fun w1 vals hB hd K hK => ?_) ?_
     ·have e2 := tI (hd 2 rfl) rfl;clear hd;simp only [putAll, Act.put, pS] at hK |-;simp only [e2] at hK |-;clear e2;refine gwp_none rfl ?_;have hq : w1.cell? (ad.add k) = some (.slice A1 n1 c1) := HX.out w1 hB;go_simp;exact hK _ _ rfl bR
     refine And.intro (fun w1 vals hB hd K hK => ?_) ?_
     ·clear hd;simp only [putAll, Act.put, pS] at hK |-;refine gwp_none rfl ?_;go_simp;exact hK _ _ rfl bR
     refine And.intro (fun w1 vals hB hd K hK => ?_) ?_
     ·clear hd;simp only [putAll, Act.put, pS] at hK |-;refine gwp_none rfl ?_;go_simp;exact hK _ _ rfl bR
     refine And.intro (fun w1 vals hB hd K hK => ?_) ?_
     ·have e4 := tI (hd 4 rfl) rfl;have e5 := tI (hd 5 rfl) rfl;clear hd;simp only [putAll, Act.put, pS] at hK |-;simp only [e4, e5] at hK |-;clear e4 e5;refine gwp_none rfl ?_;go_simp;exact hK _ _ rfl bR
     refine And.intro (fun w1 vals hB hd K hK => ?_) ?_
     ·have e6 := tI (hd 6 rfl) rfl;clear hd;simp only [putAll, Act.put, pS] at hK |-;simp only [e6] at hK |-;clear e6;refine gwp_none rfl ?_;have hq : w1.cell? (bd.add k) = some (.slice A2 n2 c2) := HY.out w1 hB;go_simp;exact hK _ _ rfl bR
     refine And.intro (fun w1 vals hB hd K hK => ?_) ?_
     ·have e3 := tI (hd 3 rfl) rfl;have e7 := tI (hd 7 rfl) rfl;clear hd;simp only [putAll, Act.put, pS] at hK |-;simp only [e3, e7] at hK |-;clear e3 e7;refine gwp_none rfl ?_;go_simp;refine (HS.out w1 hB).mono ?_;rintro e w4 ⟨rfl, z, rfl⟩;exact hK _ _ rfl (below_drewN bR z)
     refine And.intro (fun w1 vals hB hd K hK => ?_) ?_
     ·have e8 := tI (hd 8 rfl) rfl;clear hd;simp only [putAll, Act.put, pS] at hK |-;simp only [e8] at hK |-;clear e8;refine gwp_none rfl ?_;go_simp;exact hK _ _ rfl bR
     exact trivial
    ·intro w1 vals hB hd;have e9 := tI (hd 9 (by decide)) rfl;clear hd;simp only [putAll, Act.put, pS];simp only [e9];clear e9;have HZ2 : Hid (Below w.heap.size w w1) := HZ.out.trans (hB.mono hsz);clear hB
     cases bb with
     | true =>
      have HNEXT : Hid (xs.take (k + 1) = ys.take (k + 1)) := take_eq_next hpre.out HXK.out HYK.out (of_decide_eq_true HBB.out);clear HBB;go_wp2;go_roundw
      case rel => exact ⟨k + 1, HLT.out, by go_num, HNEXT, HZ2⟩
      case measure => have := HLT.out; simp [intOf]; omega
     | false =>
      have HRES : Hid (decide (xs = ys) = false) := decide_eq_false fun he => by
       have h1 := HXK.out;rw [he, HYK.out] at h1;injection h1 with h1
       exact of_decide_eq_false HBB.out h1.symm
      clear HBB;go_wp2;go_ret;exact ⟨ret_bool HRES.out.symm, HZ2.out⟩
   ·obtain rfl : n = k := by omega
    have hkn : ¬ (n : Int) < (n : Int) := by omega
    have HRES : Hid (decide (xs = ys) = true) := by
     have h1 := hpre.out;rw [List.take_of_length_le (by rw [HX.out]; exact Nat.le_refl _), List.take_of_length_le (by rw [HY.out]; exact Nat.le_refl _)] at h1;exact decide_eq_true h1
    go_wp2;go_ret;exact ⟨ret_bool HRES.out.symm, HZ.out⟩
 ·have hd : ((n : Int) != (m : Int)) = true := by rw [bne_iff_ne]; omega
  have HRES : Hid (decide (xs = ys) = false) := decide_eq_false fun he => hnm (by rw [<- hxl, <- hyl, he])
  go_enter Tryz.func18, Tryz.ntmps18
  go_wp2;go_ret;exact ⟨ret_bool HRES.out.symm, Below.refl _ _⟩
end
end Go.Proofs.YthcabnfcgjnlnaaGreatDoor
