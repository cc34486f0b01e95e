import Derived.Test.YthcabnfcgjnlnaaGreatDoorLi12
set_option linter.unusedVariables false
set_option linter.unusedSimpArgs false
namespace Go.Proofs.YthcabnfcgjnlnaaGreatDoor
section
open Go.RowKit Ru Lay
attribute [local go_sem ↓] Go.wp_at_zero Go.wp_at_succ
theorem indB_cases (s : ByteArray) : (s.toList.isEmpty = true -> indB s = ⟨#[]⟩) /\ (s.toList.isEmpty = false -> indB s = ⟨#[32, 32, 32, 32]⟩ ++ s) := by
 refine ⟨fun h => if_pos ((txt_empty s).1 h), fun h => if_neg fun e => ?_⟩;rw [(txt_empty s).2 e] at h
 cases h
set_option maxHeartbeats 8000000 in
set_option maxRecDepth 100000 in
theorem refLines_any (A : Option Addr) (n c : Nat) (D : List Dc) (A2 : Option Addr) (m c2 : Nat) (L : List Pt) (WD : Int) (w : World) (hD : DcsR w w.heap.size A n D) (hn : n <= 1000) (hP : PtsR w w.heap.size A2 m L) (hm : m <= 1000)
  (hok : ∀ x ∈ D, DcOk x) (hrf : ∀ p ∈ L, p.refs.length <= 1000 /\ p.title.size <= 1000000) (hWD : WD <= 9223372036854775807) (hI : IncD D) :
  Calls Tryz.prog 26 #[.slice A n c, .slice A2 m c2, .int .i64 WD] w fun e w' => ∃ v, e = .returned v /\ OwnS w' w.heap.size v (linesG D L WD) /\ Below w.heap.size w w' := by
 have hl20 : ∀ x ∈ D, x.l.length <= 20 := fun x hx => by have h1 := (hD.2 x hx).2.len; have h2 := (hok x hx).nn; omega
 have HNT := Lib.hid fun (W : World) (hW : Below w.heap.size w W) (z : Int) (h0 : -9223372036854775808 <= z) (h1 : z <= 9223372036854775807) => refText_any z W h0 h1
 have HEX := Lib.hid fun (x : Dc) (hx : x ∈ D) (W : World) (hW : Below w.heap.size w W) (id : Int) => refExample_any x.d x.T x.l id x.T.length WD W ((hD.on hW).2 x hx).1 ((hD.on hW).2 x hx).2 (hok x hx).ok (by have := (hok x hx).nn; omega) (by have := (hok x hx).tn; omega) (fun i => (hok x hx).ok.stop i) (by have h1 := ((hD.on hW).2 x hx).1.len; have h2 := (hok x hx).tn; omega) hWD
 have HES := Lib.hid fun (x : Dc) (hx : x ∈ D) (id : Int) => exL_sz (T := x.T) (id := id) (K := x.T.length) (WD := WD) (hok x hx).txt (hl20 x hx)
 have HEL := Lib.hid fun (x : Dc) (hx : x ∈ D) (id : Int) => exL_len (T := x.T) (id := id) (K := x.T.length) (WD := WD) (hl20 x hx)
 have HDG := Lib.hid fun (k : Nat) (r : Rf) => docG_len (D := D.take k) (fun x hx => hl20 x (List.mem_of_mem_take hx)) WD r
 have HDA := Lib.hid (docG_all hI WD);have HLM := Lib.hid fun i => linesM_len hl20 WD (fun p hp => (hrf p hp).1) i (out := numsF [] (allR L))
 have HFL := Lib.hid fun rs => flatG_le hl20 WD rs (out := numsF [] (allR L))
 have HDT := Lib.hid hD;have HDL := Lib.hid hD.len;have HPT := Lib.hid hP;have HPL := Lib.hid hP.len;have HRF := Lib.hid hrf
 have hz : (allR L).length <= 1000000 := by
  have h1 := allR_le (k := 1000) fun p hp => (hrf p hp).1
  have h2 : L.length * 1000 <= 1000 * 1000 := Nat.mul_le_mul_right 1000 (by rw [hP.len]; exact hm);omega
 have HNB0 := Lib.hid fun (W : World) (hW : Below w.heap.size w W) (r1 r2 : Int) => refNumber_any A2 m c2 L r1 r2 W (hP.on hW) (by omega) hz
 have hol := numsF_len (allR L) [];have HOL : Hid ((numsF [] (allR L)).length <= 1000000) := by show _ <= _; rw [List.length_nil] at hol; omega
 have HLG : Hid (linesG D L WD = linesM (numsF [] (allR L)) D WD L L.length) := rfl;clear hD hP hok hrf hl20 hz hol hI;rw [HLG.out];clear HLG;obtain ⟨out, hout⟩ : ∃ x, numsF [] (allR L) = x := ⟨_, rfl⟩;rw [hout] at HLM HFL HOL HNB0 |-;clear hout;go_enter Tryz.func26, Tryz.ntmps26
 go_wp2_with fail
 go_loopw [7, 8, 9, 10, 11, 12, 13, 16] (fun v7 v8 v9 v10 v11 v12 v13 v16 wr => ∃ i : Nat, i <= m /\ v16 = .int .i64 i /\ Hid (OwnS wr w.heap.size v7 (linesM out D WD L i)) /\ Hid (Below w.heap.size w wr)) (fun _ _ _ _ _ _ _ v16 _ => m - (intOf v16).toNat)
 case atStart => exact ⟨0, Nat.zero_le _, rfl, OwnS.nil _ _, Below.refl _ _⟩
 case round =>
  obtain ⟨i, hi, rfl, HO, HB2⟩ := hrel;obtain ⟨w2, hw2⟩ : ∃ w2, wr = w2 := ⟨_, rfl⟩;rw [hw2] at HO HB2 |-;clear hw2;have hz2 := HB2.out.size;by_cases hlt : i < m
  ·have hiz : (i : Int) < (m : Int) := by omega
   have hiA : (0 : Int) <= (i : Int) := by omega
   obtain ⟨ad, p, rfl, hab, hp, hpr, hpc⟩ := HPT.out.at_ hlt;have hpx := HRF.out p (List.mem_of_getElem? hp);have HLT := Lib.hid hlt;have HNXT := Lib.hid (linesM_next (out := out) (D := D) (WD := WD) hp)
   have hlm : (linesM out D WD L i).length <= 122000000 := by
    have h1 := HLM.out i;have h2 : i * 122000 <= 1000 * 122000 := Nat.mul_le_mul_right 122000 (by omega);omega
   obtain ⟨LM, hLM⟩ : ∃ x, linesM out D WD L i = x := ⟨_, rfl⟩;rw [hLM] at HO HNXT hlm;obtain ⟨pid, title, text, ea, en, ec, ra, rn, rc, refs⟩ := p;have HRFS := Lib.hid hpr.refs;have HROK := Lib.hid hpr.ok;have HPC := Lib.hid hpc;simp only at hpx HRFS HROK HPC;have hw1 : IntKind.i64.wrap ((i : Int) + 1) = (i : Int) + 1 := by rw [IntKind.wrap_i64]; omega
   have HT1 := Lib.hid fun (W : World) (hW : Below w2.heap.size w2 W) => HNT.out W (HB2.out.trans (hW.mono HB2.out.size)) ((i : Int) + 1) (by omega) (by omega)
   have hs1 := itoaB_sz (n := (i : Int) + 1) (by omega) (by omega);have hPT : ptL out D WD i ⟨pid, title, text, ea, en, ec, ra, rn, rc, refs⟩ = (itoaB ((i : Int) + 1) ++ ⟨#[46, 32]⟩ ++ title) :: ((if text.size = 0 then [] else [text]) ++ refs.flatMap (refL out D WD)) := rfl;rw [hPT] at HNXT;obtain ⟨s1, hs1q⟩ : ∃ x, itoaB ((i : Int) + 1) = x := ⟨_, rfl⟩;rw [hs1q] at HT1 hs1 HNXT;have hn1 : ¬ 9223372036854775807 < s1.size + 2 := by omega
   have hn2 : ¬ 9223372036854775807 < s1.size + 2 + title.size := by omega
   have HRN := Lib.hid hpx.1;have hrn : rn <= 1000 := by have := HRFS.out.len; have := hpx.1; omega
   clear hp hpr hpc hLM hPT hs1q hpx;go_upto_region 5 with fail
   refine wp_region_toldT 12 [Told.is (u7), Told.is (.int .i64 (i : Int)), Told.is (.int .i64 ((i : Int) + 1)), Told.is (.string s1), Told.is (.string (s1 ++ (⟨#[46, 32]⟩ : ByteArray))), Told.is (.slice (some ad) m c2), Told.is (.int .i64 (i : Int)), Told.is (.pointer (some (ad.add (i * 5)))), Told.is (.pointer (some ⟨(ad.add (i * 5)).block, (ad.add (i * 5)).off + 1, none⟩)), Told.is (.string title), Told.is (.string (s1 ++ (⟨#[46, 32]⟩ : ByteArray) ++ title)), Told.such (fun v W => ∃ A, v = .slice A 1 1 /\ SR W W.heap.size A 1 [s1 ++ (⟨#[46, 32]⟩ : ByteArray) ++ title]) (fun v W W' ⟨A, h1, h2⟩ hb => ⟨A, h1, Reads.on h2 hb⟩)] (by kernel_rfl) (by kernel_rfl) ?_ ?_
   ·simp only [List.take_succ_cons, List.take_zero];refine And.intro (fun w1 vals hB hd K hK => ?_) ?_
    ·clear hd;simp only [putAll, Act.put, pS] at hK |-;refine gwp_none rfl ?_;go_simp;exact hK _ _ rfl bR
    refine And.intro (fun w1 vals hB hd K hK => ?_) ?_
    ·clear hd;simp only [putAll, Act.put, pS] at hK |-;refine gwp_none rfl ?_;go_simp;exact hK _ _ rfl bR
    refine And.intro (fun w1 vals hB hd K hK => ?_) ?_
    ·have e1 := tI (hd 1 rfl) rfl;clear hd;simp only [putAll, Act.put, pS] at hK |-;simp only [e1] at hK |-;clear e1;refine gwp_none rfl ?_;go_simp;exact hK _ _ rfl bR
    refine And.intro (fun w1 vals hB hd K hK => ?_) ?_
    ·have e2 := tI (hd 2 rfl) rfl;clear hd;simp only [putAll, Act.put, pS] at hK |-;simp only [e2] at hK |-;clear e2;refine gwp_none rfl ?_;go_simp;refine (HT1.out w1 hB).mono ?_;rintro e w4 ⟨rfl, hb4⟩;exact hK _ _ rfl hb4
    refine And.intro (fun w1 vals hB hd K hK => ?_) ?_
    ·have e3 := tI (hd 3 rfl) rfl;clear hd;simp only [putAll, Act.put, pS] at hK |-;simp only [e3] at hK |-;clear e3;refine gwp_none rfl ?_;go_simp;exact hK _ _ rfl bR
    refine And.intro (fun w1 vals hB hd K hK => ?_) ?_
    ·clear hd;simp only [putAll, Act.put, pS] at hK |-;refine gwp_none rfl ?_;go_simp;exact hK _ _ rfl bR
    refine And.intro (fun w1 vals hB hd K hK => ?_) ?_
    ·clear hd;simp only [putAll, Act.put, pS] at hK |-;refine gwp_none rfl ?_;go_simp;exact hK _ _ rfl bR
    refine And.intro (fun w1 vals hB hd K hK => ?_) ?_
    ·have e5 := tI (hd 5 rfl) rfl;have e6 := tI (hd 6 rfl) rfl;clear hd;simp only [putAll, Act.put, pS] at hK |-;simp only [e5, e6] at hK |-;clear e5 e6;refine gwp_none rfl ?_;go_simp;exact hK _ _ rfl bR
    refine And.intro (fun w1 vals hB hd K hK => ?_) ?_
    ·have e7 := tI (hd 7 rfl) rfl;clear hd;simp only [putAll, Act.put, pS] at hK |-;simp only [e7] at hK |-;clear e7;refine gwp_none rfl ?_;go_simp;exact hK _ _ rfl bR
    refine And.intro (fun w1 vals hB hd K hK => ?_) ?_
    ·have e8 := tI (hd 8 rfl) rfl;clear hd;simp only [putAll, Act.put, pS] at hK |-;simp only [e8] at hK |-;clear e8;refine gwp_none rfl ?_;obtain ⟨_, c1, _⟩ := HPC.out w1 (HB2.out.trans (hB.mono HB2.out.size));go_simp;exact hK _ _ rfl bR
    refine And.intro (fun w1 vals hB hd K hK => ?_) ?_
    ·have e4 := tI (hd 4 rfl) rfl;have e9 := tI (hd 9 rfl) rfl;clear hd;simp only [putAll, Act.put, pS] at hK |-;simp only [e4, e9] at hK |-;clear e4 e9;refine gwp_none rfl ?_;go_simp;exact hK _ _ rfl bR
    refine And.intro (fun w1 vals hB hd K hK => ?_) ?_
    ·have e10 := tI (hd 10 rfl) rfl;clear hd;simp only [putAll, Act.put, pS] at hK |-;simp only [e10] at hK |-;clear e10;refine gwp_none rfl ?_;go_simp;exact hK _ _ ⟨_, rfl, sr_new w1 9 [s1 ++ (⟨#[46, 32]⟩ : ByteArray) ++ title] _ rfl 1 rfl⟩ (bR.alloc (Nat.le_refl _) _)
    exact trivial
   ·intro w1 vals hB hd;have e0 := tI (hd 0 (by decide) (by decide)) rfl;have p11 := told_at (hd 11 (by decide) (by decide)) rfl;simp only [Told.holds] at p11;obtain ⟨x11, hx11⟩ : ∃ x, vals 11 = x := ⟨_, rfl⟩;rw [hx11] at p11;clear hd;simp only [List.take_succ_cons, List.take_zero, List.drop_succ_cons, List.drop_zero];simp only [putAll, Act.put, pS];simp only [e0, hx11];clear e0 hx11;obtain ⟨A8, rfl, hs8⟩ := p11;have HS8 := Lib.hid hs8;have HO3 := Lib.hid (OwnS.on HO.out hB);have HB4 : Hid (Below w.heap.size w w1) := HB2.out.trans (hB.mono HB2.out.size);have hz4 := HB4.out.size;clear hs8 hB HT1 HO;go_upto_if 37 with (at_builtin; refine wpList_app rfl (.tmp 19) (.tmp 30) 45 rfl w.heap.size 9 16 (.string .empty) info_string rfl Tryz.underlying45 rfl HO3.out (A := A8) (m := 1) (c := 1) rfl HS8.out (one_strG _) (by omega) (by omega) hz4 ?_; intro v8 w4 hown8 hg8 hat8; have HO8 : Hid (OwnS w4 w.heap.size v8 (LM ++ [s1 ++ (⟨#[46, 32]⟩ : ByteArray) ++ title])) := own_s (n := 0) hown8; have HB8 : Hid (Below w.heap.size w w4) := below_app HB4.out HO3.out hg8 (Nat.le_refl _) hz4; clear hown8 hg8 hat8 HO3 HB4; obtain ⟨c0, c1, c3, c4, c5⟩ := HPC.out w4 HB8.out)
    go_cut [7] from 37 to 46 (fun v7 wx => Hid (OwnS wx w.heap.size v7 (LM ++ [s1 ++ (⟨#[46, 32]⟩ : ByteArray) ++ title] ++ (if text.size = 0 then [] else [text]))) /\ Hid (Below w.heap.size w wx))
    case first =>
     obtain ⟨tb, htb⟩ : ∃ tb, text.toList.isEmpty = tb := ⟨_, rfl⟩;have HE := Lib.hid (txt_empty text);rw [htb] at HE |-;clear htb
     cases tb with
     | true =>
      have HI0 : Hid ((if text.size = 0 then [] else [text]) = ([] : List ByteArray)) := if_pos (HE.out.1 rfl);go_wp2;go_meet
      exact ⟨(by rw [HI0.out, List.append_nil]; exact HO8.out), HB8⟩
     | false =>
      have HI0 : Hid ((if text.size = 0 then [] else [text]) = [text]) := if_neg fun h => by have := HE.out.2 h; cases this
      have hz8 := HB8.out.size;have hl8 : (LM ++ [s1 ++ (⟨#[46, 32]⟩ : ByteArray) ++ title]).length <= 122000001 := by rw [List.length_append, List.length_singleton]; omega
      obtain ⟨L8, hL8⟩ : ∃ z, LM ++ [s1 ++ (⟨#[46, 32]⟩ : ByteArray) ++ title] = z := ⟨_, rfl⟩;rw [hL8] at HO8 hl8;have HL8 := Lib.hid hL8;clear hL8;go_wp2_with (at_builtin; refine wpList_app1 rfl (.tmp 38) (.tmp 44) 45 rfl w.heap.size 9 16 (.string .empty) info_string rfl Tryz.underlying45 rfl HO8.out rfl rfl (by omega) (by omega) hz8 ?_; rintro v9 w5 hown9 hb9 hs9 hk9)
      have HO9 : Hid (OwnS w5 w.heap.size v9 (L8 ++ [text])) := own_s (n := 0) hown9;have HB9 := Lib.hid (HB8.out.trans hb9);clear hown9 hb9 hk9;go_wp2;go_meet
      exact ⟨(by rw [HI0.out, HL8.out]; exact HO9.out), HB9⟩
    case rest =>
     obtain ⟨HO9, HB9⟩ := hcut;obtain ⟨w5, hw5⟩ : ∃ w5, wc = w5 := ⟨_, rfl⟩;rw [hw5] at HO9 HB9 |-;clear hw5 HO8 HB8 HS8 c0 c1 c3 c4 c5;obtain ⟨c0, c1, c3, c4, c5⟩ := HPC.out w5 HB9.out
     have hl9 : (LM ++ [s1 ++ (⟨#[46, 32]⟩ : ByteArray) ++ title] ++ (if text.size = 0 then [] else [text])).length <= 122000002 := by
      rw [List.length_append, List.length_append, List.length_singleton];split <;> simp <;> omega
     obtain ⟨M0, hM0⟩ : ∃ z, LM ++ [s1 ++ (⟨#[46, 32]⟩ : ByteArray) ++ title] ++ (if text.size = 0 then [] else [text]) = z := ⟨_, rfl⟩;have HM0 := Lib.hid hM0;rw [hM0] at HO9 hl9;clear hM0;go_wp2_with fail
     go_loopw [7, 9, 10, 11, 12, 13, 52] (fun v7 v9 v10 v11 v12 v13 v52 wi => ∃ j : Nat, j <= rn /\ v52 = .int .i64 j /\ Hid (OwnS wi w.heap.size v7 (M0 ++ (refs.take j).flatMap (refL out D WD))) /\ Hid (Below w.heap.size w wi)) (fun _ _ _ _ _ _ v52 _ => rn - (intOf v52).toNat)
     case atStart => exact ⟨0, Nat.zero_le _, rfl, (by rw [List.take_zero, List.flatMap_nil, List.append_nil]; exact HO9.out), HB9.out⟩
     case round =>
      clear HO9 HB9 HB2 c0 c1 c3 c4 c5;obtain ⟨j, hj, rfl, HO, HB4⟩ := hrel;obtain ⟨w6, hw6⟩ : ∃ w6, wr = w6 := ⟨_, rfl⟩;rw [hw6] at HO HB4 |-;clear hw6;have hz6 := HB4.out.size;by_cases hjt : j < rn
      ·have hjz : (j : Int) < (rn : Int) := by omega
       have hjA : (0 : Int) <= (j : Int) := by omega
       obtain ⟨bd, r, rfl, hbb, hr, hrc⟩ := HRFS.out.at_ hjt;obtain ⟨q0, q1⟩ := hrc w6 HB4.out;obtain ⟨c0, c1, c3, c4, c5⟩ := HPC.out w6 HB4.out;have HJT := Lib.hid hjt;have HROr : Hid (RfOk r) := HROK.out r (List.mem_of_getElem? hr);have HNXR := Lib.hid (flat_next (refL out D WD) hr)
       have hml : (M0 ++ (refs.take j).flatMap (refL out D WD)).length <= 123000000 := by
        have h1 := HFL.out (refs.take j);have h2 : (refs.take j).length * 121 <= 1000 * 121 := Nat.mul_le_mul_right 121 (by have := HRN.out; rw [List.length_take]; omega);rw [List.length_append];omega
       obtain ⟨ML, hML⟩ : ∃ z, M0 ++ (refs.take j).flatMap (refL out D WD) = z := ⟨_, rfl⟩;have HML := Lib.hid hML;rw [hML] at HO hml;obtain ⟨r1, r2⟩ := r;have hr12 := HROr.out.rng;simp only at q0 q1 hr12;have hRL : refL out D WD (r1, r2) = ((⟨#[32, 32, 40]⟩ : ByteArray) ++ itoaB (numR out (r1, r2)) ++ (⟨#[41, 32, 91]⟩ : ByteArray) ++ itoaB r1 ++ (⟨#[46]⟩ : ByteArray) ++ itoaB r2 ++ (⟨#[93]⟩ : ByteArray)) :: (exC WD (docF D r1) r2).map indB := rfl;rw [hRL] at HNXR;obtain ⟨rp, hrp⟩ : ∃ rp, w6.heap.size = rp := ⟨_, rfl⟩;obtain ⟨W6, hW6⟩ : ∃ W6, w6.alloc (.cells #[.int .i64 r1, .int .i64 r2] 24) = W6 := ⟨_, rfl⟩;have hzW6 : W6.heap.size = rp + 1 := by rw [<- hW6, <- hrp]; simp
       have HO6 : Hid (OwnS W6 w.heap.size u7 ML) := by rw [<- hW6]; exact World.ownsRow.alloc HO.out _
       have HGR : Hid (W6.ownsRow 0 24 2 (.slice (some ⟨rp, 0, none⟩) 1 1) 1 [.int .i64 r1, .int .i64 r2]) := by rw [<- hW6, <- hrp]; exact guest_made w6 _ _ _ rfl 2 rfl
       have HAR : Hid (Apart (.slice (some ⟨rp, 0, none⟩) 1 1) u7) := fun b2 hb2 he => by
        have h1 := (World.ownsRow.lt HO.out b2 he).2;simp [Value.ownBlock] at hb2
        omega
       have HB5 : Hid (Below w.heap.size w W6) := by rw [<- hW6]; exact HB4.out.alloc HB4.out.size _
       have HRR : Hid (∀ W, Below W6.heap.size W6 W -> W.rangeAt rp 0 [.int .i64 r1, .int .i64 r2]) := fun W hW => by
        intro k v hv;rw [Nat.zero_add];exact guest_cell (own_below HGR.out hW) hv (by have := (List.getElem?_eq_some_iff.1 hv).1; simpa using this)
       have HNM := Lib.hid fun (W : World) (hW : Below W6.heap.size W6 W) => HNB0.out W (HB5.out.trans (hW.mono HB5.out.size)) r1 r2
       have hnr := numR_range out (r1, r2);have hol := HOL.out;have HT1 := Lib.hid fun (W : World) (hW : Below W6.heap.size W6 W) => HNT.out W (HB5.out.trans (hW.mono HB5.out.size)) (numR out (r1, r2)) (by omega) (by omega)
       have HT2 := Lib.hid fun (W : World) (hW : Below W6.heap.size W6 W) => HNT.out W (HB5.out.trans (hW.mono HB5.out.size)) r1 hr12.1.1 hr12.1.2
       have HT3 := Lib.hid fun (W : World) (hW : Below W6.heap.size W6 W) => HNT.out W (HB5.out.trans (hW.mono HB5.out.size)) r2 hr12.2.1 hr12.2.2
       have hz1 := itoaB_sz (n := numR out (r1, r2)) (by omega) (by omega);have hz2 := itoaB_sz hr12.1.1 hr12.1.2;have hz3 := itoaB_sz hr12.2.1 hr12.2.2;obtain ⟨t1, ht1⟩ : ∃ z, itoaB (numR out (r1, r2)) = z := ⟨_, rfl⟩;obtain ⟨t2, ht2⟩ : ∃ z, itoaB r1 = z := ⟨_, rfl⟩;obtain ⟨t3, ht3⟩ : ∃ z, itoaB r2 = z := ⟨_, rfl⟩;rw [ht1] at HT1 hz1 HNXR;rw [ht2] at HT2 hz2 HNXR;rw [ht3] at HT3 hz3 HNXR;have hn1 : ¬ 9223372036854775807 < 3 + t1.size := by omega
       have hn2 : ¬ 9223372036854775807 < 3 + t1.size + 3 := by omega
       have hn3 : ¬ 9223372036854775807 < 3 + t1.size + 3 + t2.size := by omega
       have hn4 : ¬ 9223372036854775807 < 3 + t1.size + 3 + t2.size + 1 := by omega
       have hn5 : ¬ 9223372036854775807 < 3 + t1.size + 3 + t2.size + 1 + t3.size := by omega
       have hn6 : ¬ 9223372036854775807 < 3 + t1.size + 3 + t2.size + 1 + t3.size + 1 := by omega
       clear hr hrc HO hML hRL ht1 ht2 ht3 hbb hnr hol hr12;go_upto_region 12 with fail
       (try rw [hW6])
       (try rw [hrp])
       clear hW6 hrp q0 q1 c0 c1 c3 c4 c5;refine wp_region_toldT 18 [Told.is (u7), Told.is (.slice (some ad) m c2), Told.is (.agg #[.int .i64 r1, .int .i64 r2]), Told.is (.int .i64 (numR out (r1, r2))), Told.is (.string t1), Told.is (.string ((⟨#[32, 32, 40]⟩ : ByteArray) ++ t1)), Told.is (.string ((⟨#[32, 32, 40]⟩ : ByteArray) ++ t1 ++ (⟨#[41, 32, 91]⟩ : ByteArray))), Told.is (.pointer (some ⟨rp, 0, none⟩)), Told.is (.int .i64 r1), Told.is (.string t2), Told.is (.string ((⟨#[32, 32, 40]⟩ : ByteArray) ++ t1 ++ (⟨#[41, 32, 91]⟩ : ByteArray) ++ t2)), Told.is (.string ((⟨#[32, 32, 40]⟩ : ByteArray) ++ t1 ++ (⟨#[41, 32, 91]⟩ : ByteArray) ++ t2 ++ (⟨#[46]⟩ : ByteArray))), Told.is (.pointer (some ⟨rp, 1, none⟩)), Told.is (.int .i64 r2), Told.is (.string t3), Told.is (.string ((⟨#[32, 32, 40]⟩ : ByteArray) ++ t1 ++ (⟨#[41, 32, 91]⟩ : ByteArray) ++ t2 ++ (⟨#[46]⟩ : ByteArray) ++ t3)), Told.is (.string ((⟨#[32, 32, 40]⟩ : ByteArray) ++ t1 ++ (⟨#[41, 32, 91]⟩ : ByteArray) ++ t2 ++ (⟨#[46]⟩ : ByteArray) ++ t3 ++ (⟨#[93]⟩ : ByteArray))), Told.such (fun v W => ∃ A, v = .slice A 1 1 /\ SR W W.heap.size A 1 [(⟨#[32, 32, 40]⟩ : ByteArray) ++ t1 ++ (⟨#[41, 32, 91]⟩ : ByteArray) ++ t2 ++ (⟨#[46]⟩ : ByteArray) ++ t3 ++ (⟨#[93]⟩ : ByteArray)]) (fun v W W' ⟨A, h1, h2⟩ hb => ⟨A, h1, Reads.on h2 hb⟩)] (by kernel_rfl) (by kernel_rfl) ?_ ?_
       ·simp only [List.take_succ_cons, List.take_zero];refine And.intro (fun w1 vals hB hd K hK => ?_) ?_
        ·clear hd;simp only [putAll, Act.put, pS] at hK |-;refine gwp_none rfl ?_;go_simp;exact hK _ _ rfl bR
        refine And.intro (fun w1 vals hB hd K hK => ?_) ?_
        ·clear hd;simp only [putAll, Act.put, pS] at hK |-;refine gwp_none rfl ?_;go_simp;exact hK _ _ rfl bR
        refine And.intro (fun w1 vals hB hd K hK => ?_) ?_
        ·clear hd;simp only [putAll, Act.put, pS] at hK |-;refine gwp_none rfl ?_;refine wp_load_mid 24 (.tmp 10) rfl rp 0 rfl [.int .i64 r1, .int .i64 r2] _ (HRR.out w1 hB) Tryz.underlying24 rfl (by kernel_rfl) ?_;simp only [Act.put, pS];exact hK _ _ rfl bR
        refine And.intro (fun w1 vals hB hd K hK => ?_) ?_
        ·have e1 := tI (hd 1 rfl) rfl;have e2 := tI (hd 2 rfl) rfl;clear hd;simp only [putAll, Act.put, pS] at hK |-;simp only [e1, e2] at hK |-;clear e1 e2;refine gwp_none rfl ?_;go_simp;refine (HNM.out w1 hB).mono ?_;rintro e w4 ⟨rfl, hb4⟩;exact hK _ _ rfl hb4
        refine And.intro (fun w1 vals hB hd K hK => ?_) ?_
        ·have e3 := tI (hd 3 rfl) rfl;clear hd;simp only [putAll, Act.put, pS] at hK |-;simp only [e3] at hK |-;clear e3;refine gwp_none rfl ?_;go_simp;refine (HT1.out w1 hB).mono ?_;rintro e w4 ⟨rfl, hb4⟩;exact hK _ _ rfl hb4
        refine And.intro (fun w1 vals hB hd K hK => ?_) ?_
        ·have e4 := tI (hd 4 rfl) rfl;clear hd;simp only [putAll, Act.put, pS] at hK |-;simp only [e4] at hK |-;clear e4;refine gwp_none rfl ?_;go_simp;exact hK _ _ rfl bR
        refine And.intro (fun w1 vals hB hd K hK => ?_) ?_
        ·have e5 := tI (hd 5 rfl) rfl;clear hd;simp only [putAll, Act.put, pS] at hK |-;simp only [e5] at hK |-;clear e5;refine gwp_none rfl ?_;go_simp;exact hK _ _ rfl bR
        refine And.intro (fun w1 vals hB hd K hK => ?_) ?_
        ·clear hd;simp only [putAll, Act.put, pS] at hK |-;refine gwp_none rfl ?_;go_simp;exact hK _ _ rfl bR
        refine And.intro (fun w1 vals hB hd K hK => ?_) ?_
        ·have e7 := tI (hd 7 rfl) rfl;clear hd;simp only [putAll, Act.put, pS] at hK |-;simp only [e7] at hK |-;clear e7;refine gwp_none rfl ?_;have c1 := HRR.out w1 hB 0 _ rfl;go_simp;exact hK _ _ rfl bR
        refine And.intro (fun w1 vals hB hd K hK => ?_) ?_
        ·have e8 := tI (hd 8 rfl) rfl;clear hd;simp only [putAll, Act.put, pS] at hK |-;simp only [e8] at hK |-;clear e8;refine gwp_none rfl ?_;go_simp;refine (HT2.out w1 hB).mono ?_;rintro e w4 ⟨rfl, hb4⟩;exact hK _ _ rfl hb4
        refine And.intro (fun w1 vals hB hd K hK => ?_) ?_
        ·have e6 := tI (hd 6 rfl) rfl;have e9 := tI (hd 9 rfl) rfl;clear hd;simp only [putAll, Act.put, pS] at hK |-;simp only [e6, e9] at hK |-;clear e6 e9;refine gwp_none rfl ?_;go_simp;exact hK _ _ rfl bR
        refine And.intro (fun w1 vals hB hd K hK => ?_) ?_
        ·have e10 := tI (hd 10 rfl) rfl;clear hd;simp only [putAll, Act.put, pS] at hK |-;simp only [e10] at hK |-;clear e10;refine gwp_none rfl ?_;go_simp;exact hK _ _ rfl bR
        refine And.intro (fun w1 vals hB hd K hK => ?_) ?_
        ·clear hd;simp only [putAll, Act.put, pS] at hK |-;refine gwp_none rfl ?_;go_simp;exact hK _ _ rfl bR
        refine And.intro (fun w1 vals hB hd K hK => ?_) ?_
        ·have e12 := tI (hd 12 rfl) rfl;clear hd;simp only [putAll, Act.put, pS] at hK |-;simp only [e12] at hK |-;clear e12;refine gwp_none rfl ?_;have c1 := HRR.out w1 hB 1 _ rfl;go_simp;exact hK _ _ rfl bR
        refine And.intro (fun w1 vals hB hd K hK => ?_) ?_
        ·have e13 := tI (hd 13 rfl) rfl;clear hd;simp only [putAll, Act.put, pS] at hK |-;simp only [e13] at hK |-;clear e13;refine gwp_none rfl ?_;go_simp;refine (HT3.out w1 hB).mono ?_;rintro e w4 ⟨rfl, hb4⟩;exact hK _ _ rfl hb4
        refine And.intro (fun w1 vals hB hd K hK => ?_) ?_
        ·have e11 := tI (hd 11 rfl) rfl;have e14 := tI (hd 14 rfl) rfl;clear hd;simp only [putAll, Act.put, pS] at hK |-;simp only [e11, e14] at hK |-;clear e11 e14;refine gwp_none rfl ?_;go_simp;exact hK _ _ rfl bR
        refine And.intro (fun w1 vals hB hd K hK => ?_) ?_
        ·have e15 := tI (hd 15 rfl) rfl;clear hd;simp only [putAll, Act.put, pS] at hK |-;simp only [e15] at hK |-;clear e15;refine gwp_none rfl ?_;go_simp;exact hK _ _ rfl bR
        refine And.intro (fun w1 vals hB hd K hK => ?_) ?_
        ·have e16 := tI (hd 16 rfl) rfl;clear hd;simp only [putAll, Act.put, pS] at hK |-;simp only [e16] at hK |-;clear e16;refine gwp_none rfl ?_;go_simp;exact hK _ _ ⟨_, rfl, sr_new w1 9 [(⟨#[32, 32, 40]⟩ : ByteArray) ++ t1 ++ (⟨#[41, 32, 91]⟩ : ByteArray) ++ t2 ++ (⟨#[46]⟩ : ByteArray) ++ t3 ++ (⟨#[93]⟩ : ByteArray)] _ rfl 1 rfl⟩ (bR.alloc (Nat.le_refl _) _)
        exact trivial
       ·intro w1 vals hB hd;have e0 := tI (hd 0 (by decide) (by decide)) rfl;have p17 := told_at (hd 17 (by decide) (by decide)) rfl;simp only [Told.holds] at p17;obtain ⟨x17, hx17⟩ : ∃ x, vals 17 = x := ⟨_, rfl⟩;rw [hx17] at p17;clear hd;simp only [List.take_succ_cons, List.take_zero, List.drop_succ_cons, List.drop_zero];simp only [putAll, Act.put, pS];simp only [e0, hx17];clear e0 hx17;obtain ⟨A8, rfl, hs8⟩ := p17;have HS8 := Lib.hid hs8;have HO7 := Lib.hid (HO6.out.on hB);have HG7 := Lib.hid (own_below HGR.out hB);have HB7 : Hid (Below w.heap.size w w1) := HB5.out.trans (hB.mono HB5.out.size);have hz7 := HB7.out.size;clear hs8 hB HT1 HT2 HT3 HRR HNM HO6 HGR hn1 hn2 hn3 hn4 hn5 hn6 hz1 hz2 hz3;go_wp2_with (at_builtin; refine wpList_app rfl (.tmp 63) (.tmp 80) 45 rfl w.heap.size 9 16 (.string .empty) info_string rfl Tryz.underlying45 rfl HO7.out (A := A8) (m := 1) (c := 1) rfl HS8.out (one_strG _) (by omega) (by omega) hz7 ?_; intro v8 w4 hown8 hg8 hat8; have HK8 := Lib.hid (own_kept HG7.out hg8 HAR.out hat8); have HO8 : Hid (OwnS w4 w.heap.size v8 (ML ++ [(⟨#[32, 32, 40]⟩ : ByteArray) ++ t1 ++ (⟨#[41, 32, 91]⟩ : ByteArray) ++ t2 ++ (⟨#[46]⟩ : ByteArray) ++ t3 ++ (⟨#[93]⟩ : ByteArray)])) := own_s (n := 0) hown8; have HB8 : Hid (Below w.heap.size w w4) := below_app HB7.out HO7.out hg8 (Nat.le_refl _) hz7; clear hown8 hg8 hat8 HO7 HG7 HB7)
        have hm1 : (ML ++ [(⟨#[32, 32, 40]⟩ : ByteArray) ++ t1 ++ (⟨#[41, 32, 91]⟩ : ByteArray) ++ t2 ++ (⟨#[46]⟩ : ByteArray) ++ t3 ++ (⟨#[93]⟩ : ByteArray)]).length <= 123000001 := by rw [List.length_append, List.length_singleton]; omega
        have HM1 : Hid (M0 ++ (refs.take (j + 1)).flatMap (refL out D WD) = (ML ++ [(⟨#[32, 32, 40]⟩ : ByteArray) ++ t1 ++ (⟨#[41, 32, 91]⟩ : ByteArray) ++ t2 ++ (⟨#[46]⟩ : ByteArray) ++ t3 ++ (⟨#[93]⟩ : ByteArray)]) ++ (exC WD (docF D r1) r2).map indB) := by
         show _ = _;rw [HNXR.out, <- List.append_assoc, HML.out, List.append_assoc];rfl
        obtain ⟨M1, hM1⟩ : ∃ z, ML ++ [(⟨#[32, 32, 40]⟩ : ByteArray) ++ t1 ++ (⟨#[41, 32, 91]⟩ : ByteArray) ++ t2 ++ (⟨#[46]⟩ : ByteArray) ++ t3 ++ (⟨#[93]⟩ : ByteArray)] = z := ⟨_, rfl⟩;rw [hM1] at HO8 hm1 HM1;clear hM1 HNXR HML HAR HS8;go_wp2_with fail
        go_loopw [7, 11, 12, 13, 84] (fun v7 v11 v12 v13 v84 wd => ∃ k : Nat, k <= n /\ v84 = .int .i64 k /\ Hid (OwnS wd w.heap.size v7 (M1 ++ (D.take k).flatMap (docG WD (r1, r2)))) /\ Hid (wd.ownsRow 0 24 2 (.slice (some ⟨rp, 0, none⟩) 1 1) 1 [.int .i64 r1, .int .i64 r2]) /\ Hid (Apart (.slice (some ⟨rp, 0, none⟩) 1 1) v7) /\ Hid (Below w.heap.size w wd)) (fun _ _ _ _ v84 _ => n - (intOf v84).toNat)
        case atStart => exact ⟨0, Nat.zero_le _, rfl, (by rw [List.take_zero, List.flatMap_nil, List.append_nil]; exact HO8.out), HK8.out.1, HK8.out.2, HB8.out⟩
        case round =>
         clear HO8 HK8 HB8 HB4 HB5;obtain ⟨k, hk, rfl, HO, HGR, HAR, HB8⟩ := hrel;obtain ⟨w8, hw8⟩ : ∃ w8, wr = w8 := ⟨_, rfl⟩;rw [hw8] at HO HGR HB8 |-;clear hw8;have hz8 := HB8.out.size;by_cases hkt : k < n
         ·have hkz : (k : Int) < (n : Int) := by omega
          have hkA : (0 : Int) <= (k : Int) := by omega
          obtain ⟨dd, x, rfl, hdb, hx, hxm, hcells⟩ := HDT.out.at_ hkt;have HDC := Lib.hid hcells;have HKT := Lib.hid hkt;have HNXD := Lib.hid (docG_next (WD := WD) (r := (r1, r2)) hx)
          have hm2 : (M1 ++ (D.take k).flatMap (docG WD (r1, r2))).length <= 123200000 := by
           have h1 := HDG.out k (r1, r2);have h2 : (D.take k).length * 120 <= 1000 * 120 := Nat.mul_le_mul_right 120 (by rw [List.length_take]; omega);rw [List.length_append];omega
          obtain ⟨M2, hM2⟩ : ∃ z, M1 ++ (D.take k).flatMap (docG WD (r1, r2)) = z := ⟨_, rfl⟩;have HM2 := Lib.hid hM2;rw [hM2] at HO hm2
          have HRR : Hid (∀ W, Below w8.heap.size w8 W -> W.rangeAt rp 0 [.int .i64 r1, .int .i64 r2]) := fun W hW => by
           intro k v hv;rw [Nat.zero_add];exact guest_cell (own_below HGR.out hW) hv (by have := (List.getElem?_eq_some_iff.1 hv).1; simpa using this)
          obtain ⟨nb, hnb⟩ : ∃ nb, (!(x.d.rid == r1)) = nb := ⟨_, rfl⟩;have HNB := Lib.hid hnb;have HNB2 : Hid ((x.d.rid != r1) = nb) := hnb;have HXM := Lib.hid hxm;clear hx hxm hcells hM2 hnb hdb;go_upto_region 16 with fail
          refine wp_region_told [Told.is (.slice (some dd) n c), Told.is (.int .i64 (k : Int)), Told.is (.pointer (some (dd.add (k * 7)))), Told.is (.pointer (some (dd.add (k * 7)))), Told.is (.pointer (some (dd.add (k * 7)))), Told.is (.int .i64 x.d.rid), Told.is (.pointer (some ⟨rp, 0, none⟩)), Told.is (.int .i64 r1), Told.is (.bool nb)] (by kernel_rfl) (by kernel_rfl) ?_ ?_
          ·refine And.intro (fun w1 vals hB hd K hK => ?_) ?_
           ·clear hd;simp only [putAll, Act.put, pS] at hK |-;refine gwp_none rfl ?_;go_simp;exact hK _ _ rfl bR
           refine And.intro (fun w1 vals hB hd K hK => ?_) ?_
           ·clear hd;simp only [putAll, Act.put, pS] at hK |-;refine gwp_none rfl ?_;go_simp;exact hK _ _ rfl bR
           refine And.intro (fun w1 vals hB hd K hK => ?_) ?_
           ·have e0 := tI (hd 0 rfl) rfl;have e1 := tI (hd 1 rfl) rfl;clear hd;simp only [putAll, Act.put, pS] at hK |-;simp only [e0, e1] at hK |-;clear e0 e1;refine gwp_none rfl ?_;go_simp;exact hK _ _ rfl bR
           refine And.intro (fun w1 vals hB hd K hK => ?_) ?_
           ·have e2 := tI (hd 2 rfl) rfl;clear hd;simp only [putAll, Act.put, pS] at hK |-;simp only [e2] at hK |-;clear e2;refine gwp_none rfl ?_;go_simp;exact hK _ _ rfl bR
           refine And.intro (fun w1 vals hB hd K hK => ?_) ?_
           ·have e3 := tI (hd 3 rfl) rfl;clear hd;simp only [putAll, Act.put, pS] at hK |-;simp only [e3] at hK |-;clear e3;refine gwp_none rfl ?_;go_simp;exact hK _ _ rfl bR
           refine And.intro (fun w1 vals hB hd K hK => ?_) ?_
           ·have e4 := tI (hd 4 rfl) rfl;clear hd;simp only [putAll, Act.put, pS] at hK |-;simp only [e4] at hK |-;clear e4;refine gwp_none rfl ?_;obtain ⟨c0, _⟩ := HDC.out w1 (HB8.out.trans (hB.mono HB8.out.size));go_simp;exact hK _ _ rfl bR
           refine And.intro (fun w1 vals hB hd K hK => ?_) ?_
           ·clear hd;simp only [putAll, Act.put, pS] at hK |-;refine gwp_none rfl ?_;go_simp;exact hK _ _ rfl bR
           refine And.intro (fun w1 vals hB hd K hK => ?_) ?_
           ·have e6 := tI (hd 6 rfl) rfl;clear hd;simp only [putAll, Act.put, pS] at hK |-;simp only [e6] at hK |-;clear e6;refine gwp_none rfl ?_;have c1 := HRR.out w1 hB 0 _ rfl;go_simp;exact hK _ _ rfl bR
           refine And.intro (fun w1 vals hB hd K hK => ?_) ?_
           ·have e5 := tI (hd 5 rfl) rfl;have e7 := tI (hd 7 rfl) rfl;clear hd;simp only [putAll, Act.put, pS] at hK |-;simp only [e5, e7] at hK |-;clear e5 e7;refine gwp_none rfl ?_;have hnb := HNB.out;have hnb2 := HNB2.out;go_simp;exact hK _ _ rfl bR
           exact trivial
          ·intro w1 vals hB hd;have e8 := tI (hd 8 (by decide)) rfl;clear hd;simp only [putAll, Act.put, pS];simp only [e8];clear e8;have HO9 := Lib.hid (HO.out.on hB);have HG9 := Lib.hid (own_below HGR.out hB);have HB10 : Hid (Below w.heap.size w w1) := HB8.out.trans (hB.mono HB8.out.size);have HRR : Hid (∀ W, Below w1.heap.size w1 W -> W.rangeAt rp 0 [.int .i64 r1, .int .i64 r2]) := fun W hW => HRR.out W (hB.trans (hW.mono hB.size))
           obtain ⟨w10, hw10⟩ : ∃ w10, w1 = w10 := ⟨_, rfl⟩;rw [hw10] at HO9 HG9 HB10 HRR |-;have hz10 := HB10.out.size;clear hB hw10 HO HGR HB8
           cases nb with
           | true =>
            have HDN : Hid (docG WD (r1, r2) x = []) := if_neg (by have := HNB.out; simpa using this)
            have HMN : Hid (M1 ++ (D.take (k + 1)).flatMap (docG WD (r1, r2)) = M2) := by
             show _ = _;rw [HNXD.out, HDN.out, List.append_nil];exact HM2.out
            rw [<- HMN.out] at HO9;go_wp2;go_roundw
            case rel =>
             first
              | exact ⟨k + 1, HKT.out, by go_num, HO9, HG9, HAR, HB10⟩
              | ((repeat apply Exists.intro); refine ⟨?_, rfl⟩; exact ⟨k + 1, HKT.out, by go_num, HO9, HG9, HAR, HB10⟩)
            case measure => have := HKT.out; simp [intOf]; omega
           | false =>
            have HDN : Hid (docG WD (r1, r2) x = (exL x.T x.l r2 x.T.length WD).map indB) := if_pos (by have := HNB.out; simpa using this);have HEC := Lib.hid fun (W : World) (hW : Below w10.heap.size w10 W) => HEX.out x HXM.out W (HB10.out.trans (hW.mono HB10.out.size)) r2
            unfold docV at HEC;have hE120 := HEL.out x HXM.out r2;have HES2 := Lib.hid (HES.out x HXM.out r2);obtain ⟨E, hE⟩ : ∃ z, exL x.T x.l r2 x.T.length WD = z := ⟨_, rfl⟩;rw [hE] at HDN HEC hE120 HES2;clear hE;go_upto_region 17 with fail
            refine wp_region_told [Told.is (.slice (some dd) n c), Told.is (.int .i64 (k : Int)), Told.is (.pointer (some (dd.add (k * 7)))), Told.is (.agg #[.int .i64 x.d.rid, .string x.d.name, .int .i64 x.d.len, .int .i64 x.d.day, .slice x.d.sa x.d.sn x.d.sc, .slice x.d.ta x.d.tn x.d.tc, .slice x.d.na x.d.nn x.d.nc]), Told.is (.pointer (some ⟨rp, 1, none⟩)), Told.is (.int .i64 r2), Told.is (.int .i64 WD), Told.such (fun v W => OwnS W w10.heap.size v E) (fun v W W' h hb => OwnS.on h hb), Told.such (fun v W => OwnS W w10.heap.size v E) (fun v W W' h hb => OwnS.on h hb)] (by kernel_rfl) (by kernel_rfl) ?_ ?_
            ·refine And.intro (fun w1 vals hB hd K hK => ?_) ?_
             ·clear hd;simp only [putAll, Act.put, pS] at hK |-;refine gwp_none rfl ?_;go_simp;exact hK _ _ rfl bR
             refine And.intro (fun w1 vals hB hd K hK => ?_) ?_
             ·clear hd;simp only [putAll, Act.put, pS] at hK |-;refine gwp_none rfl ?_;go_simp;exact hK _ _ rfl bR
             refine And.intro (fun w1 vals hB hd K hK => ?_) ?_
             ·have e0 := tI (hd 0 rfl) rfl;have e1 := tI (hd 1 rfl) rfl;clear hd;simp only [putAll, Act.put, pS] at hK |-;simp only [e0, e1] at hK |-;clear e0 e1;refine gwp_none rfl ?_;go_simp;exact hK _ _ rfl bR
             refine And.intro (fun w1 vals hB hd K hK => ?_) ?_
             ·have e2 := tI (hd 2 rfl) rfl;clear hd;simp only [putAll, Act.put, pS] at hK |-;simp only [e2] at hK |-;clear e2;refine gwp_none rfl ?_;obtain ⟨c0, c1, c2, c3, c4, c5, c6⟩ := HDC.out w1 (HB10.out.trans (hB.mono HB10.out.size));go_simp;exact hK _ _ rfl bR
             refine And.intro (fun w1 vals hB hd K hK => ?_) ?_
             ·clear hd;simp only [putAll, Act.put, pS] at hK |-;refine gwp_none rfl ?_;go_simp;exact hK _ _ rfl bR
             refine And.intro (fun w1 vals hB hd K hK => ?_) ?_
             ·have e4 := tI (hd 4 rfl) rfl;clear hd;simp only [putAll, Act.put, pS] at hK |-;simp only [e4] at hK |-;clear e4;refine gwp_none rfl ?_;have c1 := HRR.out w1 hB 1 _ rfl;go_simp;exact hK _ _ rfl bR
             refine And.intro (fun w1 vals hB hd K hK => ?_) ?_
             ·clear hd;simp only [putAll, Act.put, pS] at hK |-;refine gwp_none rfl ?_;go_simp;exact hK _ _ rfl bR
             refine And.intro (fun w1 vals hB hd K hK => ?_) ?_
             ·have e3 := tI (hd 3 rfl) rfl;have e5 := tI (hd 5 rfl) rfl;have e6 := tI (hd 6 rfl) rfl;clear hd;simp only [putAll, Act.put, pS] at hK |-;simp only [e3, e5, e6] at hK |-;clear e3 e5 e6;refine gwp_none rfl ?_;go_simp;refine (HEC.out w1 hB).mono ?_;rintro e w4 ⟨v, rfl, hO, hb4⟩;exact hK _ _ (own_base hO hB.size) hb4
             refine And.intro (fun w1 vals hB hd K hK => ?_) ?_
             ·have p7 := told_at (hd 7 rfl) rfl;simp only [Told.holds] at p7;clear hd;generalize hx7 : vals 7 = x7;rw [hx7] at p7;simp only [putAll, Act.put, pS] at hK |-;simp only [hx7] at hK |-;clear hx7;refine gwp_none rfl ?_;go_simp;exact hK _ _ p7 bR
             exact trivial
            ·intro w1 vals hB hd;have p8 := told_at (hd 8 (by decide)) rfl;simp only [Told.holds] at p8;obtain ⟨x8, hx8⟩ : ∃ x, vals 8 = x := ⟨_, rfl⟩;rw [hx8] at p8;clear hd;simp only [putAll, Act.put, pS];simp only [hx8];clear hx8;obtain ⟨AE, cE, hvE, hEa, hEb, hEr⟩ := OwnS.form p8;subst hvE;have HOE := Lib.hid p8;have HO10 := Lib.hid (HO9.out.on hB);have HG10 := Lib.hid (own_below HG9.out hB);have HB11 : Hid (Below w.heap.size w w1) := HB10.out.trans (hB.mono HB10.out.size)
             have HAE : Hid (Apart (.slice AE E.length cE) u7) := fun b2 hb2 he => by
              have h1 := (p8.lt b2 hb2).1;have h2 := (World.ownsRow.lt HO9.out b2 he).2;omega
             obtain ⟨w11, hw11⟩ : ∃ w11, w1 = w11 := ⟨_, rfl⟩;rw [hw11] at HOE HO10 HG10 HB11 |-;have hz11 := HB11.out.size;clear p8 hB hw11 hEa hEb hEr HO9 HG9 HB10 HEC;go_wp2_with fail
             go_loopw [7, 13, 106] (fun v7 v13 v106 wd => ∃ q : Nat, q <= E.length /\ v106 = .int .i64 q /\ Hid (OwnS wd w.heap.size v7 (M2 ++ (E.take q).map indB)) /\ Hid (OwnS wd w10.heap.size (.slice AE E.length cE) E) /\ Hid (Apart (.slice AE E.length cE) v7) /\ Hid (wd.ownsRow 0 24 2 (.slice (some ⟨rp, 0, none⟩) 1 1) 1 [.int .i64 r1, .int .i64 r2]) /\ Hid (Apart (.slice (some ⟨rp, 0, none⟩) 1 1) v7) /\ Hid (Below w.heap.size w wd)) (fun _ _ v106 _ => E.length - (intOf v106).toNat)
             case atStart => exact ⟨0, Nat.zero_le _, rfl, (by rw [List.take_zero, List.map_nil, List.append_nil]; exact HO10.out), HOE.out, HAE.out, HG10.out, HAR.out, HB11.out⟩
             case round =>
              clear HO10 HOE HAE HB11 HG10 HAR HRR;obtain ⟨q, hq, rfl, HO, HOE, HAE, HGR, HAR, HB11⟩ := hrel;obtain ⟨w9, hw9⟩ : ∃ w9, wr = w9 := ⟨_, rfl⟩;rw [hw9] at HO HOE HGR HB11 |-;clear hw9;have hz9 := HB11.out.size;by_cases hqt : q < E.length
              ·have hqz : (q : Int) < (E.length : Int) := by omega
               have hqA : (0 : Int) <= (q : Int) := by omega
               obtain ⟨A9, c9, hv9, _, _, h9r⟩ := OwnS.form HOE.out;injection hv9 with hA9 _ hc9
               rw [<- hA9] at h9r;obtain ⟨be, s, hAE, hbe, hse, hce⟩ := h9r.at_ hqt;subst hAE;have HQT := Lib.hid hqt;have HNQ := Lib.hid (map_nextB indB hse);have hss := HES2.out s (List.mem_of_getElem? hse);have hn4 : ¬ 9223372036854775807 < 4 + s.size := by omega
               have hql : (M2 ++ (E.take q).map indB).length <= 123200200 := by
                rw [List.length_append, List.length_map, List.length_take];omega
               obtain ⟨QL, hQL⟩ : ∃ z, M2 ++ (E.take q).map indB = z := ⟨_, rfl⟩;have HQL := Lib.hid hQL;rw [hQL] at HO hql;have HI2 := Lib.hid (indB_cases s);clear hA9 hc9 h9r hbe hse hQL hss;go_upto_if 113 with fail
               obtain ⟨tb, htb⟩ : ∃ tb, s.toList.isEmpty = tb := ⟨_, rfl⟩;rw [htb] at HI2 |-;clear htb
               cases tb with
               | true =>
                have HIB := Lib.hid (HI2.out.1 rfl);go_wp2_with (at_builtin; refine wpList_app1 rfl (.tmp 114) (.tmp 115) 45 rfl w.heap.size 9 16 (.string .empty) info_string rfl Tryz.underlying45 rfl HO.out rfl rfl (by omega) (by omega) hz9 ?_; rintro v9 w12 hown9 hb9 hs9 hk9)
                obtain ⟨hE10, hA10⟩ := hk9 _ _ _ _ _ _ HOE.out HAE.out;obtain ⟨hG10, hR10⟩ := hk9 _ _ _ _ _ _ HGR.out HAR.out;have HE10 := Lib.hid hE10;have HA10 := Lib.hid hA10;have HG10 := Lib.hid hG10;have HR10 := Lib.hid hR10;have HO11 : Hid (OwnS w12 w.heap.size v9 (QL ++ [indB s])) := by rw [HIB.out]; exact own_s (n := 0) hown9
                have HB12 : Hid (Below w.heap.size w w12) := HB11.out.trans hb9
                have HQ2 : Hid (M2 ++ (E.take (q + 1)).map indB = QL ++ [indB s]) := by
                 show _ = _;rw [HNQ.out, <- List.append_assoc, HQL.out]
                rw [<- HQ2.out] at HO11;clear hown9 hb9 hk9 hE10 hA10 hG10 hR10;go_wp2;go_roundw
                case rel =>
                 first
                  | exact ⟨q + 1, HQT.out, by go_num, HO11, HE10, HA10, HG10, HR10, HB12⟩
                  | ((repeat apply Exists.intro); refine ⟨?_, rfl, rfl, rfl⟩; exact ⟨q + 1, HQT.out, by go_num, (by rw [<- List.map_take]; exact HO11), HE10, HA10, HG10, HR10, HB12⟩)
                case measure => have := HQT.out; simp [intOf]; omega
               | false =>
                have HIB := Lib.hid (HI2.out.2 rfl);go_wp2_with (at_builtin; refine wpList_app1 rfl (.tmp 117) (.tmp 123) 45 rfl w.heap.size 9 16 (.string .empty) info_string rfl Tryz.underlying45 rfl HO.out rfl rfl (by omega) (by omega) hz9 ?_; rintro v9 w12 hown9 hb9 hs9 hk9)
                obtain ⟨hE10, hA10⟩ := hk9 _ _ _ _ _ _ HOE.out HAE.out;obtain ⟨hG10, hR10⟩ := hk9 _ _ _ _ _ _ HGR.out HAR.out;have HE10 := Lib.hid hE10;have HA10 := Lib.hid hA10;have HG10 := Lib.hid hG10;have HR10 := Lib.hid hR10;have HO11 : Hid (OwnS w12 w.heap.size v9 (QL ++ [indB s])) := by rw [HIB.out]; exact own_s (n := 0) hown9
                have HB12 : Hid (Below w.heap.size w w12) := HB11.out.trans hb9
                have HQ2 : Hid (M2 ++ (E.take (q + 1)).map indB = QL ++ [indB s]) := by
                 show _ = _;rw [HNQ.out, <- List.append_assoc, HQL.out]
                rw [<- HQ2.out] at HO11;clear hown9 hb9 hk9 hE10 hA10 hG10 hR10;go_wp2;go_roundw
                case rel =>
                 first
                  | exact ⟨q + 1, HQT.out, by go_num, HO11, HE10, HA10, HG10, HR10, HB12⟩
                  | ((repeat apply Exists.intro); refine ⟨?_, rfl, rfl, rfl⟩; exact ⟨q + 1, HQT.out, by go_num, (by rw [<- List.map_take]; exact HO11), HE10, HA10, HG10, HR10, HB12⟩)
                case measure => have := HQT.out; simp [intOf]; omega
              ·obtain rfl : q = E.length := by omega
               have hqz : ¬ (E.length : Int) < (E.length : Int) := by omega
               rw [List.take_length] at HO
               have HMN : Hid (M1 ++ (D.take (k + 1)).flatMap (docG WD (r1, r2)) = M2 ++ E.map indB) := by
                show _ = _;rw [HNXD.out, HDN.out, <- List.append_assoc, HM2.out]
               rw [<- HMN.out] at HO;go_wp2;go_roundw
               case rel =>
                first
                 | exact ⟨k + 1, HKT.out, by go_num, HO, HGR, HAR, HB11⟩
                 | ((repeat apply Exists.intro); refine ⟨?_, rfl⟩; exact ⟨k + 1, HKT.out, by go_num, HO, HGR, HAR, HB11⟩)
               case measure => have := HKT.out; simp [intOf]; omega
         ·obtain rfl : k = n := by omega
          have hkz : ¬ (k : Int) < (k : Int) := by omega
          have HTK : Hid (D.take k = D) := List.take_of_length_le (by rw [HDL.out]; exact Nat.le_refl _);rw [HTK.out, HDA.out (r1, r2), <- HM1.out] at HO;go_wp2;go_roundw
          case rel =>
           first
            | exact ⟨j + 1, HJT.out, by go_num, HO, HB8⟩
            | ((repeat apply Exists.intro); refine ⟨?_, rfl⟩; exact ⟨j + 1, HJT.out, by go_num, HO, HB8⟩)
          case measure => have := HJT.out; simp [intOf]; omega
      ·obtain rfl : j = rn := by omega
       have hjz : ¬ (j : Int) < (j : Int) := by omega
       have HRE : Hid (refs.take j = refs) := List.take_of_length_le (by rw [HRFS.out.len]; exact Nat.le_refl _);rw [HRE.out] at HO
       have HLN : Hid (linesM out D WD L (i + 1) = M0 ++ refs.flatMap (refL out D WD)) := by
        show _ = _;rw [HNXT.out, <- HM0.out];simp
       rw [<- HLN.out] at HO;go_wp2;go_roundw
       case rel =>
        first
         | exact ⟨i + 1, HLT.out, by go_num, HO, HB4⟩
         | ((repeat apply Exists.intro); refine ⟨?_, rfl⟩; exact ⟨i + 1, HLT.out, by go_num, HO, HB4⟩)
       case measure => have := HLT.out; simp [intOf]; omega
  ·obtain rfl : i = m := by omega
   have hiz : ¬ (i : Int) < (i : Int) := by omega
   rw [<- HPL.out] at HO;go_wp2;go_ret;exact ⟨_, rfl, HO.out, HB2.out⟩
def FewP (p : Pt) : Prop := p.title.size <= 100 /\ p.text.size <= 400 /\ p.rn <= 20
def FewPost55 (n : Nat) (L : List Pt) (w : World) (e : Ending) (w' : World) : Prop := ∃ b, e = .returned (.bool b) /\ (b = true -> n <= 45 /\ ∀ p ∈ L, FewP p) /\ w = w'
theorem FewPost55.no {n : Nat} {L : List Pt} {w : World} : FewPost55 n L w (.returned (.bool false)) w := ⟨false, rfl, fun h => (by cases h), rfl⟩
theorem pre_allG {α : Type} {l : List α} {Q : α -> Prop} (h : ∀ j x, j < l.length -> l[j]? = some x -> Q x) : ∀ x ∈ l, Q x := fun x hx => by
 obtain ⟨j, hj⟩ := List.getElem?_of_mem hx;exact h j x (List.getElem?_eq_some_iff.1 hj).1 hj
theorem pre_nextG {α : Type} {l : List α} {Q : α -> Prop} {i : Nat} {x : α} (h : ∀ j y, j < i -> l[j]? = some y -> Q y) (hx : l[i]? = some x) (hq : Q x) : ∀ j y, j < i + 1 -> l[j]? = some y -> Q y := fun j y hj hy => by
 by_cases e : j = i
 ·subst e;rw [hx] at hy
  cases hy;exact hq
 ·exact h j y (by omega) hy
set_option maxHeartbeats 4000000 in
set_option maxRecDepth 100000 in
theorem few55_any (A : Option Addr) (n c : Nat) (L : List Pt) (w : World) (hP : PtsR w w.heap.size A n L) (hn : n <= 9223372036854775807) :
  Calls Tryz.prog 10 #[.slice A n c] w (FewPost55 n L w) := by
 have HL := hI hP;have HLN := hI hP.len;clear hP;go_enter Tryz.func10, Tryz.ntmps10
 go_wp2_with fail
 go_loop [3] (fun v3 => ∃ i : Nat, i <= n /\ i <= 46 /\ v3 = .int .i64 i /\ Hid (∀ j p, j < i -> L[j]? = some p -> FewP p)) (fun v3 => n - (intOf v3).toNat)
 case atStart => exact ⟨0, Nat.zero_le _, by omega, rfl, fun j p h => by omega⟩
 case round =>
  obtain ⟨i, hi, hi46, rfl, HP⟩ := hrel;by_cases hlt : i < n
  ·have hiz : (i : Int) < (n : Int) := by omega
   have hiA : (0 : Int) <= (i : Int) := by omega
   by_cases h46 : i < 46
   ·have hi2 : (i : Int) < 46 := by omega
    have hi3 : i < 46 := h46;obtain ⟨ad, p, rfl, hab, hp, hpr, hpc⟩ := HL.out.at_ hlt;obtain ⟨q0, q1, q2, q3, q4⟩ := hpc w bR;have HX := hI hp;have HI := hI hlt;clear hp hpc hpr;by_cases h1 : p.title.size <= 100
    ·have d1 : decide ((p.title.size : Int) > 100) = false := decide_eq_false (by omega);have d1' : decide (100 < p.title.size) = false := decide_eq_false (by omega);have d1'' : decide ((100 : Int) < (p.title.size : Int)) = false := decide_eq_false (by omega);by_cases h2 : p.text.size <= 400
     ·have d2 : decide ((p.text.size : Int) > 400) = false := decide_eq_false (by omega);have d2' : decide (400 < p.text.size) = false := decide_eq_false (by omega);have d2'' : decide ((400 : Int) < (p.text.size : Int)) = false := decide_eq_false (by omega);by_cases h3 : p.en <= 40
      ·have d3 : decide ((p.en : Int) > 40) = false := decide_eq_false (by omega);have d3' : decide (40 < p.en) = false := decide_eq_false (by omega);have d3'' : decide ((40 : Int) < (p.en : Int)) = false := decide_eq_false (by omega);by_cases h4 : p.rn <= 20
       ·have d4 : decide ((p.rn : Int) > 20) = false := decide_eq_false (by omega);have d4' : decide (20 < p.rn) = false := decide_eq_false (by omega);have d4'' : decide ((20 : Int) < (p.rn : Int)) = false := decide_eq_false (by omega);have HQ := hI (pre_nextG HP.out HX.out ⟨h1, h2, h4⟩);have hi1 : i + 1 <= 46 := by omega
        clear h1 h2 h3 h4;go_wp2;go_round
        case rel => exact ⟨i + 1, HI.out, hi1, by go_num, HQ⟩
        case measure => have := HI.out; simp [intOf]; omega
       ·have d4 : decide ((p.rn : Int) > 20) = true := decide_eq_true (by omega);have d4' : decide (20 < p.rn) = true := decide_eq_true (by omega);have d4'' : decide ((20 : Int) < (p.rn : Int)) = true := decide_eq_true (by omega);clear h1 h2 h3 h4;go_wp2;go_ret;exact FewPost55.no
      ·have d3 : decide ((p.en : Int) > 40) = true := decide_eq_true (by omega);have d3' : decide (40 < p.en) = true := decide_eq_true (by omega);have d3'' : decide ((40 : Int) < (p.en : Int)) = true := decide_eq_true (by omega);clear h1 h2 h3;go_wp2;go_ret;exact FewPost55.no
     ·have d2 : decide ((p.text.size : Int) > 400) = true := decide_eq_true (by omega);have d2' : decide (400 < p.text.size) = true := decide_eq_true (by omega);have d2'' : decide ((400 : Int) < (p.text.size : Int)) = true := decide_eq_true (by omega);clear h1 h2;go_wp2;go_ret;exact FewPost55.no
    ·have d1 : decide ((p.title.size : Int) > 100) = true := decide_eq_true (by omega);have d1' : decide (100 < p.title.size) = true := decide_eq_true (by omega);have d1'' : decide ((100 : Int) < (p.title.size : Int)) = true := decide_eq_true (by omega);clear h1;go_wp2;go_ret;exact FewPost55.no
   ·have hi2 : ¬ (i : Int) < 46 := by omega
    have hd : decide ((n : Int) <= 45) = false := decide_eq_false (by omega);have hd2 : decide (n <= 45) = false := decide_eq_false (by omega);have hd3 : ¬ (n <= 45) := by omega
    go_wp2;go_ret;exact FewPost55.no
  ·obtain rfl : n = i := by omega
   have hiz : ¬ (n : Int) < (n : Int) := by omega
   have HQ : Hid (∀ p ∈ L, FewP p) := pre_allG fun j p hj hp => HP.out j p (by rw [<- HLN.out]; exact hj) hp
   by_cases h45 : n <= 45
   ·have hd : (n : Int) <= 45 := by omega
    have H45 := hI h45;go_wp2;go_ret;exact ⟨true, rfl, fun _ => ⟨H45.out, HQ.out⟩, rfl⟩
   ·have hd : ¬ (n : Int) <= 45 := by omega
    have hd2 : decide ((n : Int) <= 45) = false := decide_eq_false hd;go_wp2;go_ret;exact FewPost55.no
end
section
open Go.RowKit Go.ChangeShapes Go.WideShapes Go.ChangeAt Go.Deep Go.Joins Ru Lay
section
variable {H : Type} {enc : TypeId × Value → H} {w : World} {spare : Nat → Bool} {held : Bool} {fuel : Nat} {v : Value} {x : DataW H × List MemPlace}
instance : Inhabited Pt := ⟨⟨0, ⟨#[]⟩, ⟨#[]⟩, none, 0, 0, none, 0, 0, []⟩⟩
theorem intw_of {c : Value} (h : DataW.trod enc Tryz.prog w 0 spare held fuel 3 [c] = some x) : ∃ s, c = .int .i64 s /\ (Lit.int .i64 s).wf = true := by
 obtain ⟨s, e, _, hw⟩ := DataW.trod_int Tryz.underlying3 h;injection e with e
 exact ⟨s, e, hw⟩
theorem ref_of {c0 c1 : Value} (h : DataW.trod enc Tryz.prog w 0 spare held fuel 24 [c0, c1] = some x) : ∃ r : Rf, [c0, c1] = encR r /\ RfOk r := by
 have hci : Tryz.prog.cellsOf 3 = 1 := by kernel_rfl
 obtain ⟨n, hs⟩ := trod_fields Tryz.underlying24 h;obtain ⟨_, t0⟩ : ∃ y, DataW.trod enc Tryz.prog w 0 spare held n 3 (([c0, c1].drop 0).take (Tryz.prog.cellsOf 3)) = some y := hs 0 _ rfl;obtain ⟨_, t1⟩ : ∃ y, DataW.trod enc Tryz.prog w 0 spare held n 3 (([c0, c1].drop 1).take (Tryz.prog.cellsOf 3)) = some y := hs 1 _ rfl;simp only [hci, List.drop, List.take] at t0 t1;obtain ⟨s0, rfl, h0⟩ := intw_of t0;obtain ⟨s1, rfl, h1⟩ := intw_of t1;exact ⟨(s0, s1), rfl, h0, h1⟩
theorem open_RefsR (hf : DataW.trod enc Tryz.prog w 0 spare held fuel 28 [v] = some x) : ∃ A n c l, v = .slice A n c /\ RefsR w w.heap.size A n l /\ (∀ r ∈ l, RfOk r) /\ n <= maxLen := by
 rcases open_slice Tryz.underlying28 hf with ⟨h0, _⟩ | ⟨a, len, cap, m, n, D, Pl, h0, _, hl, hm, hmm, _, hx⟩
 ·injection h0 with h0
  subst h0;exact ⟨none, 0, 0, [], rfl, RecR.none_, fun _ h => (by cases h), Nat.zero_le _⟩
 ·injection h0 with h0
  subst h0;have hlm : len <= m := by rw [hmm]; split <;> omega
  have hce : Tryz.prog.cellsOf 24 = 2 := by kernel_rfl
  rw [hce] at hx
  obtain ⟨l, hr, hp⟩ := recR_of (w := w) (α := Rf) (f := encR) (s := 2) (len := len) (a := a) (p := RfOk) (by omega) encR_len (fun i hi => by
   obtain ⟨cs, h1, h2⟩ := hx i (by omega);obtain ⟨_, hcl, hcc⟩ := World.cells?_some h1
   obtain ⟨c0, c1, rfl⟩ : ∃ c0 c1, cs = [c0, c1] := by
    match cs, hcl with
    | [c0, c1], _ => exact ⟨c0, c1, rfl⟩
   obtain ⟨y, hy, hyn⟩ := ref_of h2;refine ⟨y, fun j u hu => ?_, hyn⟩;rw [<- hy] at hu;have hj : j < 2 := (List.getElem?_eq_some_iff.1 hu).1;have := hcc j (by simpa using hj);rw [add_of_add] at this;rw [this];exact hu)
  exact ⟨some a, len, cap, l, rfl, hr, hp, by omega⟩
theorem pointE_of {c0 c1 c2 c3 c4 : Value} (h : DataW.trod enc Tryz.prog w 0 spare held fuel 65 [c0, c1, c2, c3, c4] = some x) : ∃ p : Pt, [c0, c1, c2, c3, c4] = encP p /\ PtR w w.heap.size p /\ p.en <= 9223372036854775807 /\ ∃ ls : List Int, Reads w w.heap.size 1 p.ea p.en (ls.map (.int .i64)) := by
 have hci : Tryz.prog.cellsOf 3 = 1 := by kernel_rfl
 have hcs : Tryz.prog.cellsOf 9 = 1 := by kernel_rfl
 have hc1 : Tryz.prog.cellsOf 32 = 1 := by kernel_rfl
 have hc2 : Tryz.prog.cellsOf 28 = 1 := by kernel_rfl
 obtain ⟨n, hs⟩ := trod_fields Tryz.underlying65 h;obtain ⟨_, t0⟩ : ∃ y, DataW.trod enc Tryz.prog w 0 spare held n 3 (([c0, c1, c2, c3, c4].drop 0).take (Tryz.prog.cellsOf 3)) = some y := hs 0 _ rfl;obtain ⟨_, t1⟩ : ∃ y, DataW.trod enc Tryz.prog w 0 spare held n 9 (([c0, c1, c2, c3, c4].drop 1).take (Tryz.prog.cellsOf 9)) = some y := hs 1 _ rfl;obtain ⟨_, t2⟩ : ∃ y, DataW.trod enc Tryz.prog w 0 spare held n 9 (([c0, c1, c2, c3, c4].drop 2).take (Tryz.prog.cellsOf 9)) = some y := hs 2 _ rfl;obtain ⟨_, t3⟩ : ∃ y, DataW.trod enc Tryz.prog w 0 spare held n 32 (([c0, c1, c2, c3, c4].drop 3).take (Tryz.prog.cellsOf 32)) = some y := hs 3 _ rfl;obtain ⟨_, t4⟩ : ∃ y, DataW.trod enc Tryz.prog w 0 spare held n 28 (([c0, c1, c2, c3, c4].drop 4).take (Tryz.prog.cellsOf 28)) = some y := hs 4 _ rfl;simp only [hci, hcs, hc1, hc2, List.drop, List.take] at t0 t1 t2 t3 t4;obtain ⟨s0, rfl⟩ := int_of t0;obtain ⟨s1, rfl, h1⟩ := str_of t1;obtain ⟨s2, rfl, h2⟩ := str_of t2;obtain ⟨ea, en, ec, ls, rfl, hls, hle⟩ := open_ints t3;obtain ⟨ra, rn, rc, rs, rfl, hr, hok, hn⟩ := open_RefsR t4;exact ⟨⟨s0, s1, s2, ea, en, ec, ra, rn, rc, rs⟩, rfl, ⟨hr, hok, by unfold maxLen at h1 h2 hn; exact ⟨h1, h2, hn⟩⟩, by unfold maxLen at hle; exact hle, ls, hls⟩
end
end
end Go.Proofs.YthcabnfcgjnlnaaGreatDoor
