import Derived.Test.YthcabnfcgjnlnaaGreatDoorC15
import Derived.Test.YthcabnfcgjnlnaaGreatDoorE09
set_option linter.unusedVariables false
set_option linter.unusedSimpArgs false
namespace Go.Proofs.YthcabnfcgjnlnaaGreatDoor
open Go.RowKit Ru Lay
attribute [local go_sem ↓] Go.wp_at_zero Go.wp_at_succ
theorem cells7 {w : World} {b : Nat} {a0 a1 a2 a3 a4 a5 a6 : Value} (h : w.rangeAt b 0 [a0, a1, a2, a3, a4, a5, a6]) : w.cell? ⟨b, 0, none⟩ = some a0 ∧ w.cell? ⟨b, 1, none⟩ = some a1 ∧ w.cell? ⟨b, 2, none⟩ = some a2 ∧ w.cell? ⟨b, 3, none⟩ = some a3 ∧ w.cell? ⟨b, 4, none⟩ = some a4 ∧ w.cell? ⟨b, 5, none⟩ = some a5 ∧ w.cell? ⟨b, 6, none⟩ = some a6 :=
 ⟨h 0 _ rfl, h 1 _ rfl, h 2 _ rfl, h 3 _ rfl, h 4 _ rfl, h 5 _ rfl, h 6 _ rfl⟩
theorem ofL_ofI {T : List Ti} {l : List Nt} (h : LightN T l) (t : Int) : ofL T l t = ofI T l t := by
 unfold ofI
 split
 ·rename_i ht
  unfold ofL
  rw [List.map_eq_nil_iff, List.eq_nil_iff_forall_not_mem]
  intro x hx
  obtain ⟨hm, hxt⟩ := ofK_all.1 hx
  have := h.tier x hm
  rw [hxt] at this
  omega
 ·rfl
theorem rowsC_cell {w : World} {g n k : Nat} {L : List (List ByteArray)} {r : List ByteArray} (h : RowsC w w.heap.size (some ⟨g, 0, none⟩) n L) (hk : L[k]? = some r) :
  ∃ A' c', w.cell? ⟨g, k, none⟩ = some (Value.slice A' r.length c') ∧ SR w w.heap.size A' r.length r ∧ r.length ≤ c' ∧ c' ≤ 9223372036854775807 := by
 have hlt : k < n := by rw [← h.len]; exact (List.getElem?_eq_some_iff.1 hk).1
 obtain ⟨ad, l, A', n', c', e, _, hl, hc, hs, h1, h2⟩ := h.at_ hlt
 cases e
 rw [hk] at hl
 cases hl
 obtain rfl : r.length = n' := hs.len
 refine ⟨A', c', ?_, hs, h1, h2⟩
 rw [← hc]
 unfold Addr.add
 by_cases hk0 : k = 0 <;> simp [hk0]
theorem rowsC_same (A B : Option Addr) (n m c d : Nat) (xs : List (List ByteArray)) (w : World) (ha : RowsC w w.heap.size A n xs) (hb : RowsC w w.heap.size B m xs) (hn : n ≤ 9223372036854775807) (hm : m ≤ 9223372036854775807) :
  Calls Tryz.prog 18 #[.slice A n c, .slice B m d] w fun e w' => e = .returned (.bool true) ∧ Below w.heap.size w w' :=
 (rows55_any A B n m c d xs xs w ha hb hn hm).mono fun e w' ⟨h1, h2⟩ => ⟨by rw [h1, decide_eq_true rfl], h2⟩
theorem strs_alike (A B : Option Addr) (n m c d : Nat) (xs : List ByteArray) (w : World) (ha : SR w w.heap.size A n xs) (hb : SR w w.heap.size B m xs) (hn : n ≤ 9223372036854775807) (hm : m ≤ 9223372036854775807) :
  Calls Tryz.prog 21 #[.slice A n c, .slice B m d] w fun e w' => e = .returned (.bool true) ∧ Below w.heap.size w w' :=
 (same_strs A B n m c d xs xs w ha hb hn hm).mono fun e w' ⟨h1, k, h2⟩ => ⟨by rw [h1, decide_eq_true rfl], by rw [h2]; exact below_drewN (Below.refl _ _) k⟩
set_option maxHeartbeats 8000000 in
set_option maxRecDepth 100000 in
theorem grammarWords_any (d : Dv) (T : List Ti) (l : List Nt) (id : Int) (w : World) (hT : TiersR w w.heap.size d.ta d.tn T) (hl : NotesR w w.heap.size d.na d.nn l) (hnn : d.nn ≤ 9223372036854775807) (htb : Tabs w) (hpw : Pow w) :
  Calls Tryz.prog 7 #[docV d, .int .i64 id] w fun e w' => e = .returned (.bool true) ∧ Below w.heap.size w w' := by
 have HAW := Lib.hid fun (W : World) (hW : Below w.heap.size w W) => awake55_any W (htb.on hW) (hpw.on hW)
 have HLT := Lib.hid fun (W : World) (hW : Below w.heap.size w W) => lightD_any d T l W (hT.on hW) (hl.on hW)
 have H1 := Lib.hid fun (hL : DocOk T l) (h14 : d.nn ≤ 14) (h6 : d.tn ≤ 6) (W : World) (hW : Below w.heap.size w W) => rowsP_any d T l id T.length W (hT.on hW) (hl.on hW) hL.light hL.up (by omega) (by omega) hL.stop (by have := hT.len; omega) (fun y hy => hL.text hy)
 have H2 := Lib.hid fun (W : World) (hW : Below w.heap.size w W) (i : Int) => refGet_any d l i W (hl.on hW) hnn
 have H3 := Lib.hid fun (h6 : d.tn ≤ 6) (W : World) (hW : Below w.heap.size w W) => refRole_any d.ta d.tn d.tc T 2 W (hT.on hW) (by omega)
 have H4 := Lib.hid fun (hL : DocOk T l) (h14 : d.nn ≤ 14) (W : World) (hW : Below w.heap.size w W) => of39_any d T l (roleT T 2) W hL.light (hT.on hW) (hl.on hW) (by omega)
 have H5 := Lib.hid fun (hL : DocOk T l) (h14 : d.nn ≤ 14) (h6 : d.tn ≤ 6) (W : World) (hW : Below w.heap.size w W) (x : Int) => refChain_any d l x T.length W (hl.on hW) (by omega) (hL.stop x) (by have := hT.len; omega) (by omega)
 have H6 := Lib.hid fun (hL : DocOk T l) => ofL_ofI hL.light (roleT T 2)
 have H7 := Lib.hid fun (h14 : d.nn ≤ 14) => (show (ofI T l (roleT T 2)).length ≤ 20 by have := ofI_len (T := T) (l := l) (t := roleT T 2); have := hl.len; omega)
 have H8 := Lib.hid fun (h6 : d.tn ≤ 6) => (show ∀ x, (chainL l x T.length).length ≤ 100 from fun x => by have := chainL_le (l := l) (id := x) T.length; have := hT.len; omega)
 clear hT hl htb hpw
 unfold docV at HLT H1 H2 H4 H5
 unfold docV
 obtain ⟨rid, name, len, day, sa, sn, sc, ta, tn, tc, na, nn, nc⟩ := d
 simp only at *
 obtain ⟨W0, hW0, hz0, hB0, hK0⟩ := doc_cells w rid name len day sa ta na sn sc tn tc nn nc
 have HB := Lib.hid hB0
 have HK0 := Lib.hid hK0
 clear hB0 hK0
 go_enter Tryz.func7, Tryz.ntmps7
 go_upto_region 1 with fail
 (try rw [hW0])
 clear hW0
 obtain ⟨k0, k1, k2, k3, k4, k5, k6⟩ := cells7 (HK0.out W0 (Below.refl _ _))
 go_wp2_with fail
 refine (HLT.out W0 HB.out).mono ?_
 rintro e w3 ⟨b, rfl, hlf, hb3⟩
 have HLF := Lib.hid hlf
 have HB3 : Hid (Below W0.heap.size W0 w3) := hb3
 clear hb3 hlf k0 k1 k2 k3 k4 k5 k6 HLT
 cases b with
 | false =>
  go_wp2_with fail
  refine (HAW.out w3 (HB.out.trans (HB3.out.mono HB.out.size))).mono ?_
  rintro e w5 ⟨rfl, hb5⟩
  have HB5 : Hid (Below w.heap.size w w5) := (HB.out.trans (HB3.out.mono HB.out.size)).trans (hb5.mono (Nat.le_trans HB.out.size HB3.out.size))
  clear hb5
  go_wp2
  go_ret
  exact ⟨rfl, HB5.out⟩
 | true =>
  obtain ⟨⟨h14, h6⟩, hok⟩ := HLF.out rfl
  have HBW : Hid (∀ W, Below w3.heap.size w3 W → Below w.heap.size w W) := fun W hW => (HB.out.trans (HB3.out.mono HB.out.size)).trans (hW.mono (Nat.le_trans HB.out.size HB3.out.size))
  have HP := Lib.hid (H1.out hok h14 h6 w3 (HBW.out w3 (Below.refl _ _)))
  have HG := Lib.hid fun (W : World) (hW : Below w3.heap.size w3 W) (i : Int) => H2.out W (HBW.out W hW) i
  have HRO := Lib.hid fun (W : World) (hW : Below w3.heap.size w3 W) => H3.out h6 W (HBW.out W hW)
  have HOF := Lib.hid fun (W : World) (hW : Below w3.heap.size w3 W) => H4.out hok h14 W (HBW.out W hW)
  have HCH := Lib.hid fun (W : World) (hW : Below w3.heap.size w3 W) (x : Int) => H5.out hok h14 h6 W (HBW.out W hW) x
  have HA := Lib.hid fun (W : World) (hW : Below w3.heap.size w3 W) => HAW.out W (HBW.out W hW)
  have HK : Hid (∀ W, Below w3.heap.size w3 W → W.rangeAt w.heap.size 0 [.int .i64 rid, .string name, .int .i64 len, .int .i64 day, .slice sa sn sc, .slice ta tn tc, .slice na nn nc]) := fun W hW => HK0.out W (HB3.out.trans (hW.mono HB3.out.size))
  have hOI := H6.out hok
  have hlen := H7.out h14
  have HCL := Lib.hid (H8.out h6)
  have hW0w : w.heap.size < w3.heap.size := by have := HB3.out.size; omega
  clear hok HLF H1 H2 H3 H4 H5 H6 H7 H8 HAW HK0
  have hwd : wordsL T l id T.length = (ofI T l (roleT T 2)).filter fun x => decide (id ∈ chainL l x T.length) := rfl
  have hrw : rowsL T l id T.length = if (getN l id).isSome = true then (if wordsL T l id T.length = [] then [[((getN l id).getD nt0).text]] else rowsW T l (wordsL T l id T.length)) else [] := rfl
  obtain ⟨rt, hrt⟩ : ∃ x, roleT T 2 = x := ⟨_, rfl⟩
  rw [hrt] at HRO HOF hOI hlen hwd
  rw [hOI] at HOF
  obtain ⟨ids, hids⟩ : ∃ x, ofI T l rt = x := ⟨_, rfl⟩
  rw [hids] at HOF hlen hwd
  obtain ⟨WS, hWS⟩ : ∃ x, wordsL T l id T.length = x := ⟨_, rfl⟩
  rw [hWS] at hwd hrw
  have HWD := Lib.hid hwd
  have HG0 := Lib.hid fun (W : World) (hW : Below w3.heap.size w3 W) => HG.out W hW id
  unfold getV noteV at HG0
  obtain ⟨bs0, hbs0⟩ : ∃ x, (getN l id).isSome = x := ⟨_, rfl⟩
  obtain ⟨y0, hy0⟩ : ∃ x, (getN l id).getD nt0 = x := ⟨_, rfl⟩
  rw [hbs0, hy0] at HG0 hrw
  rw [hbs0] at HP
  obtain ⟨RL, hRL⟩ : ∃ x, rowsL T l id T.length = x := ⟨_, rfl⟩
  rw [hRL] at HP hrw
  have HRW := Lib.hid hrw
  clear hrt hOI hids hWS hwd hbs0 hy0 hRL hrw
  obtain ⟨k0, k1, k2, k3, k4, k5, k6⟩ := cells7 (HK.out w3 (Below.refl _ _))
  go_wp2_with fail
  refine HP.out.mono ?_
  rintro e w4 ⟨hv, hb4⟩
  have HB4 : Hid (Below w3.heap.size w3 w4) := hb4
  have HV := Lib.hid hv
  clear hb4 hv k0 k1 k2 k3 k4 k5 k6 HP
  have HGG := Lib.hid (HG0.out w4 HB4.out)
  cases bs0 with
  | false =>
   have he := HV.out.1 rfl
   subst he
   obtain ⟨k0, k1, k2, k3, k4, k5, k6⟩ := cells7 (HK.out w4 HB4.out)
   go_wp2_with fail
   refine HGG.out.mono ?_
   rintro e w5 ⟨rfl, hb5⟩
   obtain ⟨W5, hW5⟩ : ∃ W5, w5.alloc (.cells #[.int .i64 y0.nid, .int .i64 y0.tier, .int .i64 y0.parent, .int .i64 y0.at1, .int .i64 y0.at2, .int .i64 y0.rank, .string y0.text] 58) = W5 := ⟨_, rfl⟩
   have HB5 : Hid (Below w3.heap.size w3 W5) := by rw [← hW5]; exact (HB4.out.trans (hb5.mono HB4.out.size)).alloc (Nat.le_trans HB4.out.size hb5.size) _
   clear hb5 k0 k1 k2 k3 k4 k5 k6 HGG
   go_upto_region 5 with fail
   (try rw [hW5])
   clear hW5
   go_wp2_with fail
   refine (HA.out W5 HB5.out).mono ?_
   rintro e w6 ⟨rfl, hb6⟩
   have HB6 : Hid (Below w.heap.size w w6) := HBW.out _ (HB5.out.trans (hb6.mono HB5.out.size))
   clear hb6
   go_wp2
   go_ret
   exact ⟨rfl, HB6.out⟩
  | true =>
   obtain ⟨g, n5, c5, he, hR5, hn5, hc5⟩ := HV.out.2 rfl
   subst he
   have HR5 := Lib.hid hR5
   have hrwt : RL = if WS = [] then [[y0.text]] else rowsW T l WS := by have := HRW.out; rw [if_pos rfl] at this; exact this
   have HRT := Lib.hid hrwt
   clear hR5 HV HRW hrwt
   obtain ⟨k0, k1, k2, k3, k4, k5, k6⟩ := cells7 (HK.out w4 HB4.out)
   go_wp2_with fail
   refine HGG.out.mono ?_
   rintro e w5 ⟨rfl, hb5⟩
   obtain ⟨p0, hp0⟩ : ∃ p0, w5.heap.size = p0 := ⟨_, rfl⟩
   obtain ⟨W5, hW5⟩ : ∃ W5, w5.alloc (.cells #[.int .i64 y0.nid, .int .i64 y0.tier, .int .i64 y0.parent, .int .i64 y0.at1, .int .i64 y0.at2, .int .i64 y0.rank, .string y0.text] 58) = W5 := ⟨_, rfl⟩
   have hz5 : W5.heap.size = p0 + 1 := by rw [← hW5, ← hp0]; simp
   have HB5 : Hid (Below w3.heap.size w3 W5) := by rw [← hW5]; exact (HB4.out.trans (hb5.mono HB4.out.size)).alloc (Nat.le_trans HB4.out.size hb5.size) _
   have HB45 : Hid (Below w4.heap.size w4 W5) := by rw [← hW5]; exact hb5.alloc hb5.size _
   have HY0 : Hid (∀ W, Below W5.heap.size W5 W → W.cell? ⟨p0, 6, none⟩ = some (.string y0.text)) := fun W hW => by
    rw [hW.cell (by show p0 < _; omega), ← hW5, ← hp0, World.cell?_alloc_new]; rfl
   have HR55 := Lib.hid fun (W : World) (hW : Below W5.heap.size W5 W) => (HR5.out.on HB45.out).on hW
   clear hb5 k0 k1 k2 k3 k4 k5 k6 HGG HR5
   go_upto_region 5 with fail
   (try rw [hW5])
   (try rw [hp0])
   clear hW5 hp0
   have k5 : W5.cell? ⟨w.heap.size, 5, none⟩ = some (.slice ta tn tc) := (cells7 (HK.out W5 HB5.out)).2.2.2.2.2.1
   have HRR := Lib.hid (HRO.out W5 HB5.out)
   go_wp2_with fail
   refine HRR.out.mono ?_
   rintro e w6 ⟨rfl, hb6⟩
   have HB6 := Lib.hid (HB5.out.trans (hb6.mono HB5.out.size))
   have HB56 := Lib.hid hb6
   clear hb6 k5 HRR
   have HOO := Lib.hid (HOF.out w6 HB6.out)
   obtain ⟨k0, k1, k2, k3, k4, k5, k6⟩ := cells7 (HK.out w6 HB6.out)
   go_wp2_with fail
   refine HOO.out.mono ?_
   rintro e w7 ⟨v7, rfl, hO7, hb7⟩
   obtain ⟨A7, c7, hv7, h7a, h7b, h7r⟩ := OwnI.form hO7
   subst hv7
   have HIR := Lib.hid h7r
   have HB7 := Lib.hid (HB6.out.trans (hb7.mono HB6.out.size))
   have HB57 := Lib.hid (HB56.out.trans (hb7.mono HB56.out.size))
   clear hO7 hb7 h7a h7b h7r k0 k1 k2 k3 k4 k5 k6 HOO HOF HRO
   go_wp2_with fail
   go_loopw [8, 11, 12, 13, 43] (fun v8 v11 v12 v13 v43 wr => ∃ i : Nat, i ≤ ids.length ∧ v43 = .int .i64 i ∧ Hid (OwnS wr w7.heap.size v8 (((ids.take i).filter fun x => decide (id ∈ chainL l x T.length)).map (textN l))) ∧ Hid (Below w7.heap.size w7 wr)) (fun _ _ _ _ v43 _ => ids.length - (intOf v43).toNat)
   case atStart => exact ⟨0, Nat.zero_le _, rfl, OwnS.nil _ _, Below.refl _ _⟩
   case round =>
    obtain ⟨i, hi, rfl, HO, HB78⟩ := hrel
    obtain ⟨w8, hw8⟩ : ∃ w8, wr = w8 := ⟨_, rfl⟩
    rw [hw8] at HO HB78 ⊢
    clear hw8
    have HB8 : Hid (Below w3.heap.size w3 w8) := HB7.out.trans (HB78.out.mono HB7.out.size)
    have hz78 := HB78.out.size
    by_cases hlt : i < ids.length
    ·have hiz : (i : Int) < (ids.length : Int) := by omega
     have hiA : (0 : Int) ≤ (i : Int) := by omega
     obtain ⟨bd, x, hA, hbb, hidx, hc⟩ := HIR.out.at_ hlt
     subst hA
     have HLT2 := Lib.hid hlt
     have HCX0 : Hid (∀ W, Below w7.heap.size w7 W → W.cell? (bd.add i) = some (.int .i64 x)) := fun W hW => (hW.cell (by rw [block_of_add]; exact hbb)).trans hc
     have HCX : Hid (∀ W, Below w8.heap.size w8 W → W.cell? (bd.add i) = some (.int .i64 x)) := fun W hW => HCX0.out W (HB78.out.trans (hW.mono hz78))
     have HNX := Lib.hid (filter_next (p := fun x => decide (id ∈ chainL l x T.length)) hidx)
     have hpt : (((ids.take i).filter fun x => decide (id ∈ chainL l x T.length)).map (textN l)).length ≤ 20 := by
      have h1 := List.length_filter_le (fun x => decide (id ∈ chainL l x T.length)) (ids.take i)
      rw [List.length_take] at h1
      rw [List.length_map]
      omega
     have HCC := Lib.hid fun W (hW : Below w8.heap.size w8 W) => HCH.out W (HB8.out.trans (hW.mono HB8.out.size)) x
     have HDX : Hid (∀ W, Below w8.heap.size w8 W → W.rangeAt w.heap.size 0 [.int .i64 rid, .string name, .int .i64 len, .int .i64 day, .slice sa sn sc, .slice ta tn tc, .slice na nn nc]) := fun W hW => HK.out W (HB8.out.trans (hW.mono HB8.out.size))
     have hcl := HCL.out x
     obtain ⟨ch, hch⟩ : ∃ ch, chainL l x T.length = ch := ⟨_, rfl⟩
     have HNX2 : Hid (((ids.take (i + 1)).filter (fun x => decide (id ∈ chainL l x T.length))).map (textN l) = ((ids.take i).filter fun x => decide (id ∈ chainL l x T.length)).map (textN l) ++ if decide (id ∈ ch) = true then [textN l x] else []) := by
      rw [← hch]
      show _ = _
      rw [HNX.out, List.map_append]
      split <;> rfl
     rw [hch] at HCC hcl
     obtain ⟨ll, hll⟩ : ∃ ll, ((ids.take i).filter fun x => decide (id ∈ chainL l x T.length)).map (textN l) = ll := ⟨_, rfl⟩
     rw [hll] at HNX2 hpt HO
     obtain ⟨bb, hbb2⟩ : ∃ bb, decide (id ∈ ch) = bb := ⟨_, rfl⟩
     have HBB := Lib.hid hbb2
     rw [hbb2] at HNX2
     clear hc hidx hll HNX hch hbb2 hbb
     go_upto_region 13 with fail
     refine wp_region_told [Told.is (.agg #[.int .i64 rid, .string name, .int .i64 len, .int .i64 day, .slice sa sn sc, .slice ta tn tc, .slice na nn nc]), Told.is (.slice (some bd) ids.length c7), Told.is (.int .i64 (i : Int)), Told.is (.pointer (some (bd.add i))), Told.is (.int .i64 x), Told.such (fun v W => OwnI W w8.heap.size v ch) (fun v W W' h hb => h.on hb), Told.is (.int .i64 id), Told.is (.bool bb)] (by kernel_rfl) (by kernel_rfl) ?_ ?_
     ·refine And.intro (fun w1 vals hB hd K hK => ?_) ?_
      ·clear hd
       simp only [putAll, Act.put, pS] at hK ⊢
       refine gwp_none rfl ?_
       refine wp_load_mid 38 (.tmp 2) rfl w.heap.size 0 rfl [.int .i64 rid, .string name, .int .i64 len, .int .i64 day, .slice sa sn sc, .slice ta tn tc, .slice na nn nc] _ (HDX.out w1 hB) Tryz.underlying38 rfl (by kernel_rfl) ?_
       simp only [Act.put, pS]
       exact hK _ _ rfl (Below.refl _ _)
      refine And.intro (fun w1 vals hB hd K hK => ?_) ?_
      ·clear hd
       simp only [putAll, Act.put, pS] at hK ⊢
       refine gwp_none rfl ?_
       go_simp
       exact hK _ _ rfl (Below.refl _ _)
      refine And.intro (fun w1 vals hB hd K hK => ?_) ?_
      ·clear hd
       simp only [putAll, Act.put, pS] at hK ⊢
       refine gwp_none rfl ?_
       go_simp
       exact hK _ _ rfl (Below.refl _ _)
      refine And.intro (fun w1 vals hB hd K hK => ?_) ?_
      ·have e1 : vals 1 = .slice (some bd) ids.length c7 := told_at (hd 1 rfl) rfl
       have e2 : vals 2 = .int .i64 (i : Int) := told_at (hd 2 rfl) rfl
       clear hd
       simp only [putAll, Act.put, pS] at hK ⊢
       simp only [e1, e2] at hK ⊢
       clear e1 e2
       refine gwp_none rfl ?_
       go_simp
       exact hK _ _ rfl (Below.refl _ _)
      refine And.intro (fun w1 vals hB hd K hK => ?_) ?_
      ·have e3 : vals 3 = .pointer (some (bd.add i)) := told_at (hd 3 rfl) rfl
       clear hd
       simp only [putAll, Act.put, pS] at hK ⊢
       simp only [e3] at hK ⊢
       clear e3
       refine gwp_none rfl ?_
       have hc := HCX.out w1 hB
       go_simp
       exact hK _ _ rfl (Below.refl _ _)
      refine And.intro (fun w1 vals hB hd K hK => ?_) ?_
      ·have e0 : vals 0 = .agg #[.int .i64 rid, .string name, .int .i64 len, .int .i64 day, .slice sa sn sc, .slice ta tn tc, .slice na nn nc] := told_at (hd 0 rfl) rfl
       have e4 : vals 4 = .int .i64 x := told_at (hd 4 rfl) rfl
       clear hd
       simp only [putAll, Act.put, pS] at hK ⊢
       simp only [e0, e4] at hK ⊢
       clear e0 e4
       refine gwp_none rfl ?_
       go_simp
       refine (HCC.out w1 hB).mono ?_
       rintro e w3 ⟨v, rfl, hO, hb⟩
       exact hK _ _ (own_base hO hB.size) hb
      refine And.intro (fun w1 vals hB hd K hK => ?_) ?_
      ·clear hd
       simp only [putAll, Act.put, pS] at hK ⊢
       refine gwp_none rfl ?_
       go_simp
       exact hK _ _ rfl (Below.refl _ _)
      refine And.intro (fun w1 vals hB hd K hK => ?_) ?_
      ·have p5 := told_at (t := Told.such (fun v W => OwnI W w8.heap.size v ch) (fun v W W' h hb => h.on hb)) (hd 5 rfl) rfl
       simp only [Told.holds] at p5
       have e6 : vals 6 = .int .i64 id := told_at (hd 6 rfl) rfl
       clear hd
       generalize hx5 : vals 5 = x5
       rw [hx5] at p5
       simp only [putAll, Act.put, pS] at hK ⊢
       simp only [e6, hx5] at hK ⊢
       clear e6 hx5
       refine gwp_none rfl ?_
       obtain ⟨A3, c3, rfl, h3a, h3b, h3r⟩ := OwnI.form p5
       go_simp
       refine (refHas_any A3 ch.length c3 ch id w1 h3r (by omega)).mono ?_
       rintro e w3 ⟨rfl, rfl⟩
       rw [HBB.out]
       exact hK _ _ rfl (Below.refl _ _)
      exact trivial
     ·intro w1 vals hB hd
      have e7 : vals 7 = .bool bb := told_at (hd 7 (by decide)) rfl
      clear hd
      simp only [putAll, Act.put, pS]
      simp only [e7]
      clear e7
      have HB9 : Hid (Below w7.heap.size w7 w1) := HB78.out.trans (hB.mono hz78)
      have HB39 : Hid (Below w3.heap.size w3 w1) := HB7.out.trans (HB9.out.mono HB7.out.size)
      have HO9 := Lib.hid (HO.out.on hB)
      have hz79 := HB9.out.size
      obtain ⟨w9, hw9⟩ : ∃ w9, w1 = w9 := ⟨_, rfl⟩
      rw [hw9] at HB9 HB39 HO9 hz79 ⊢
      clear hB HO HBB HCX HDX HCC hw9
      cases bb with
      | false =>
       go_wp2
       go_roundw
       case rel => exact ⟨i + 1, HLT2.out, by go_num, (by rw [HNX2.out, if_neg (by simp), List.append_nil]; exact HO9), HB9⟩
       case measure => have := HLT2.out; simp [intOf]; omega
      | true =>
       have HCX : Hid (∀ W, Below w9.heap.size w9 W → W.cell? (bd.add i) = some (.int .i64 x)) := fun W hW => HCX0.out W (HB9.out.trans (hW.mono hz79))
       have HDX : Hid (∀ W, Below w9.heap.size w9 W → W.rangeAt w.heap.size 0 [.int .i64 rid, .string name, .int .i64 len, .int .i64 day, .slice sa sn sc, .slice ta tn tc, .slice na nn nc]) := fun W hW => HK.out W (HB39.out.trans (hW.mono HB39.out.size))
       have HGX := Lib.hid fun (W : World) (hW : Below w9.heap.size w9 W) => HG.out W (HB39.out.trans (hW.mono HB39.out.size)) x
       unfold getV noteV at HGX
       have htx : textN l x = ((getN l x).getD nt0).text := rfl
       rw [htx] at HNX2
       obtain ⟨y, hy⟩ : ∃ y, (getN l x).getD nt0 = y := ⟨_, rfl⟩
       obtain ⟨bs, hbs⟩ : ∃ bs, (getN l x).isSome = bs := ⟨_, rfl⟩
       rw [hy] at HGX HNX2
       rw [hbs] at HGX
       clear hy hbs htx
       go_upto_region 14 with fail
       refine wp_region_toldA 9 10 7 [.int .i64 y.nid, .int .i64 y.tier, .int .i64 y.parent, .int .i64 y.at1, .int .i64 y.at2, .int .i64 y.rank, .string y.text] [ToldA.is (.agg #[.int .i64 rid, .string name, .int .i64 len, .int .i64 day, .slice sa sn sc, .slice ta tn tc, .slice na nn nc]), ToldA.is (.slice (some bd) ids.length c7), ToldA.is (.int .i64 (i : Int)), ToldA.is (.pointer (some (bd.add i))), ToldA.is (.int .i64 x), ToldA.is (.tuple #[.agg #[.int .i64 y.nid, .int .i64 y.tier, .int .i64 y.parent, .int .i64 y.at1, .int .i64 y.at2, .int .i64 y.rank, .string y.text], .bool bs]), ToldA.is (.tuple #[.agg #[.int .i64 y.nid, .int .i64 y.tier, .int .i64 y.parent, .int .i64 y.at1, .int .i64 y.at2, .int .i64 y.rank, .string y.text], .bool bs]), ToldA.is (.agg #[.int .i64 y.nid, .int .i64 y.tier, .int .i64 y.parent, .int .i64 y.at1, .int .i64 y.at2, .int .i64 y.rank, .string y.text]), ToldA.is (.bool bs), ToldA.new, ToldA.put, ToldA.is (.bool bs)] (by omega) (by kernel_rfl) (by kernel_rfl) rfl ?_ ?_
       ·refine And.intro (fun w1 vals hB hd a1 ha1 K hK => ?_) ?_
        ·clear hd
         subst ha1
         simp only [putAll, Act.put, pS] at hK ⊢
         refine gwp_none rfl ?_
         refine wp_load_mid 38 (.tmp 2) rfl w.heap.size 0 rfl [.int .i64 rid, .string name, .int .i64 len, .int .i64 day, .slice sa sn sc, .slice ta tn tc, .slice na nn nc] _ (HDX.out w1 hB) Tryz.underlying38 rfl (by kernel_rfl) ?_
         simp only [Act.put, pS]
         exact hK _ _ rfl (Below.refl _ _)
        refine And.intro (fun w1 vals hB hd a1 ha1 K hK => ?_) ?_
        ·clear hd
         subst ha1
         simp only [putAll, Act.put, pS] at hK ⊢
         refine gwp_none rfl ?_
         go_simp
         exact hK _ _ rfl (Below.refl _ _)
        refine And.intro (fun w1 vals hB hd a1 ha1 K hK => ?_) ?_
        ·clear hd
         subst ha1
         simp only [putAll, Act.put, pS] at hK ⊢
         refine gwp_none rfl ?_
         go_simp
         exact hK _ _ rfl (Below.refl _ _)
        refine And.intro (fun w1 vals hB hd a1 ha1 K hK => ?_) ?_
        ·have e1 : vals 1 = .slice (some bd) ids.length c7 := toldA_at (hd 1 rfl) rfl
         have e2 : vals 2 = .int .i64 (i : Int) := toldA_at (hd 2 rfl) rfl
         clear hd
         subst ha1
         simp only [putAll, Act.put, pS] at hK ⊢
         simp only [e1, e2] at hK ⊢
         clear e1 e2
         refine gwp_none rfl ?_
         go_simp
         exact hK _ _ rfl (Below.refl _ _)
        refine And.intro (fun w1 vals hB hd a1 ha1 K hK => ?_) ?_
        ·have e3 : vals 3 = .pointer (some (bd.add i)) := toldA_at (hd 3 rfl) rfl
         clear hd
         subst ha1
         simp only [putAll, Act.put, pS] at hK ⊢
         simp only [e3] at hK ⊢
         clear e3
         refine gwp_none rfl ?_
         have hc := HCX.out w1 hB
         go_simp
         exact hK _ _ rfl (Below.refl _ _)
        refine And.intro (fun w1 vals hB hd a1 ha1 K hK => ?_) ?_
        ·have e0 : vals 0 = .agg #[.int .i64 rid, .string name, .int .i64 len, .int .i64 day, .slice sa sn sc, .slice ta tn tc, .slice na nn nc] := toldA_at (hd 0 rfl) rfl
         have e4 : vals 4 = .int .i64 x := toldA_at (hd 4 rfl) rfl
         clear hd
         subst ha1
         simp only [putAll, Act.put, pS] at hK ⊢
         simp only [e0, e4] at hK ⊢
         clear e0 e4
         refine gwp_none rfl ?_
         go_simp
         refine (HGX.out w1 hB).mono ?_
         rintro e w3 ⟨rfl, hb⟩
         exact hK _ _ rfl hb
        refine And.intro (fun w1 vals hB hd a1 ha1 K hK => ?_) ?_
        ·have e5 : vals 5 = .tuple #[.agg #[.int .i64 y.nid, .int .i64 y.tier, .int .i64 y.parent, .int .i64 y.at1, .int .i64 y.at2, .int .i64 y.rank, .string y.text], .bool bs] := toldA_at (hd 5 rfl) rfl
         clear hd
         subst ha1
         simp only [putAll, Act.put, pS] at hK ⊢
         simp only [e5] at hK ⊢
         clear e5
         refine gwp_none rfl ?_
         go_simp
         exact hK _ _ rfl (Below.refl _ _)
        refine And.intro (fun w1 vals hB hd a1 ha1 K hK => ?_) ?_
        ·have e6 : vals 6 = .tuple #[.agg #[.int .i64 y.nid, .int .i64 y.tier, .int .i64 y.parent, .int .i64 y.at1, .int .i64 y.at2, .int .i64 y.rank, .string y.text], .bool bs] := toldA_at (hd 6 rfl) rfl
         clear hd
         subst ha1
         simp only [putAll, Act.put, pS] at hK ⊢
         simp only [e6] at hK ⊢
         clear e6
         refine gwp_none rfl ?_
         go_simp
         exact hK _ _ rfl (Below.refl _ _)
        refine And.intro (fun w1 vals hB hd a1 ha1 K hK => ?_) ?_
        ·have e6 : vals 6 = .tuple #[.agg #[.int .i64 y.nid, .int .i64 y.tier, .int .i64 y.parent, .int .i64 y.at1, .int .i64 y.at2, .int .i64 y.rank, .string y.text], .bool bs] := toldA_at (hd 6 rfl) rfl
         clear hd
         subst ha1
         simp only [putAll, Act.put, pS] at hK ⊢
         simp only [e6] at hK ⊢
         clear e6
         refine gwp_none rfl ?_
         go_simp
         exact hK _ _ rfl (Below.refl _ _)
        refine And.intro (fun w1 vals hB hd a1 ha1 K hK => ?_) ?_
        ·clear hd
         subst ha1
         simp only [putAll, Act.put, pS] at hK ⊢
         refine gwp_none rfl ?_
         go_simp
         exact hK _ _ ⟨_, rfl, hB.size, by simp, there_new w1 _ _⟩ ((Below.refl _ _).alloc (Nat.le_refl _) _)
        refine And.intro (fun w1 vals hB hd a1 ha1 K hK => ?_) ?_
        ·have e7 : vals 7 = .agg #[.int .i64 y.nid, .int .i64 y.tier, .int .i64 y.parent, .int .i64 y.at1, .int .i64 y.at2, .int .i64 y.rank, .string y.text] := toldA_at (hd 7 rfl) rfl
         have p9 : NewAt 7 _ (vals 9) _ := toldA_at (t := ToldA.new) (hd 9 rfl) rfl
         clear hd
         refine gwp_none rfl ?_
         obtain ⟨bN, hvN, h0N, h1N, hth⟩ := p9
         have hev1 : a1.eval (.tmp 12) = .pointer (some ⟨bN, 0, none⟩) := by rw [ha1]; exact (eval_slot (i := 9) (by kernel_rfl) (by kernel_rfl) rfl).trans hvN
         have hev2 : a1.eval (.tmp 61) = .agg #[.int .i64 y.nid, .int .i64 y.tier, .int .i64 y.parent, .int .i64 y.at1, .int .i64 y.at2, .int .i64 y.rank, .string y.text] := by rw [ha1]; exact (eval_slot (i := 7) (by kernel_rfl) (by kernel_rfl) rfl).trans e7
         clear ha1
         obtain ⟨wS, hwS⟩ : ∃ wS, w1.setCells bN 0 (#[.int .i64 y.nid, .int .i64 y.tier, .int .i64 y.parent, .int .i64 y.at1, .int .i64 y.at2, .int .i64 y.rank, .string y.text] : Array Value).toList = wS := ⟨_, rfl⟩
         have hX : BelowX bN w1 wS := by rw [← hwS]; exact BelowX.set _ _ _
         have hR : wS.rangeAt bN 0 [.int .i64 y.nid, .int .i64 y.tier, .int .i64 y.parent, .int .i64 y.at1, .int .i64 y.at2, .int .i64 y.rank, .string y.text] := by rw [← hwS]; exact World.rangeAt_setCells_same w1 bN 0 [.int .i64 y.nid, .int .i64 y.tier, .int .i64 y.parent, .int .i64 y.at1, .int .i64 y.at2, .int .i64 y.rank, .string y.text] hth
         refine wp_store_mid 58 (.tmp 12) (.tmp 61) rfl bN 0 #[.int .i64 y.nid, .int .i64 y.tier, .int .i64 y.parent, .int .i64 y.at1, .int .i64 y.at2, .int .i64 y.rank, .string y.text] hev1 hev2 hth (by kernel_rfl) (by simp [Value.oneCell']) ?_
         rw [hwS]
         exact hK undef wS trivial ⟨by kernel_rfl, bN, hvN, h0N, h1N, hX, hR⟩
        refine And.intro (fun w1 vals hB hd a1 ha1 K hK => ?_) ?_
        ·have e8 : vals 8 = .bool bs := toldA_at (hd 8 rfl) rfl
         clear hd
         subst ha1
         simp only [putAll, Act.put, pS] at hK ⊢
         simp only [e8] at hK ⊢
         clear e8
         refine gwp_none rfl ?_
         go_simp
         exact hK _ _ rfl (Below.refl _ _)
        exact trivial
       ·intro w1 vals hB hd hfl
        have e11 : vals 11 = .bool bs := toldA_at (hd 11 (by decide)) rfl
        obtain ⟨bN, hvN, h0N, h1N, hrN⟩ := hfl (by decide)
        clear hfl
        clear hd
        simp only [putAll, Act.put, pS]
        simp only [e11, hvN]
        clear e11 hvN
        have HO10 := Lib.hid (HO9.out.on hB)
        have HB10 : Hid (Below w7.heap.size w7 w1) := HB9.out.trans (hB.mono hz79)
        have c6 : w1.cell? ⟨bN, 6, none⟩ = some (.string y.text) := hrN 6 _ rfl
        obtain ⟨w10, hw10⟩ : ∃ w10, w1 = w10 := ⟨_, rfl⟩
        rw [hw10] at HO10 HB10 c6 ⊢
        have hz710 := HB10.out.size
        clear hB hrN h0N h1N HCX HDX HGX HO9 hw10
        go_wp2_with (at_builtin; refine wpList_app1 rfl (.tmp 63) (.tmp 66) 45 rfl w7.heap.size 9 16 (.string .empty) info_string rfl Tryz.underlying45 rfl HO10.out (by rfl) rfl (by omega) (by omega) (by omega) ?_; rintro v5 w11 hown5 hb5 hs5 hk5)
        have HO4 : Hid (OwnS w11 w7.heap.size v5 (ll ++ [y.text])) := own_s (n := 0) hown5
        have HB11 : Hid (Below w7.heap.size w7 w11) := HB10.out.trans hb5
        clear hown5 hb5 hk5
        go_wp2
        go_roundw
        case rel =>
         first
          | exact ⟨i + 1, HLT2.out, by go_num, (by rw [HNX2.out, if_pos (by simp)]; exact HO4), HB11⟩
          | ((repeat apply Exists.intro); refine ⟨?_, rfl⟩; exact ⟨i + 1, HLT2.out, by go_num, (by rw [HNX2.out, if_pos (by simp)]; exact HO4), HB11⟩)
        case measure => have := HLT2.out; simp [intOf]; omega
    ·obtain rfl : i = ids.length := by omega
     have hiz : ¬ (ids.length : Int) < (ids.length : Int) := by omega
     rw [List.take_length, ← HWD.out] at HO
     have HB58 : Hid (Below W5.heap.size W5 w8) := HB57.out.trans (HB78.out.mono HB57.out.size)
     have HR8 := Lib.hid (HR55.out w8 HB58.out)
     obtain ⟨B1, d1, hv1, h1a, h1b, h1r⟩ := OwnS.form HO.out
     subst hv1
     have HS1 := Lib.hid h1r
     by_cases h0 : WS = []
     ·have hRL : RL = [[y0.text]] := by have := HRT.out; rw [if_pos h0] at this; exact this
      subst h0
      rw [hRL] at HR8
      have c6 := HY0.out w8 HB58.out
      have hb8 : Below w8.heap.size w8 ((w8.alloc (.cells #[.string y0.text] 9)).alloc (.cells #[.slice (some ⟨w8.heap.size, 0, none⟩) 1 1] 45)) := ((Below.refl _ _).alloc (Nat.le_refl _) _).alloc (by simp) _
      have HSM := Lib.hid (rowsC_same (some ⟨g, 0, none⟩) (some ⟨w8.heap.size + 1, 0, none⟩) n5 1 c5 1 [[y0.text]] _ (HR8.out.on hb8) (rowsC_one w8 y0.text 9 45) (by omega) (by omega))
      have HB8X := Lib.hid (HB8.out.trans (hb8.mono HB8.out.size))
      clear hb8 hRL
      go_wp2_with fail
      refine HSM.out.mono ?_
      rintro e w9 ⟨rfl, hb9⟩
      have HB9 := Lib.hid (HB8X.out.trans (hb9.mono HB8X.out.size))
      clear hb9
      go_wp2_with fail
      refine (HA.out w9 HB9.out).mono ?_
      rintro e w10 ⟨rfl, hb10⟩
      have HB10 := Lib.hid (HBW.out _ (HB9.out.trans (hb10.mono HB9.out.size)))
      clear hb10
      go_wp2
      go_ret
      exact ⟨rfl, HB10.out⟩
     ·have hRL : RL = rowsW T l WS := by have := HRT.out; rw [if_neg h0] at this; exact this
      have hne : 0 < WS.length := by
       cases WS with
       | nil => exact absurd rfl h0
       | cons a r => simp
      have hl1 : (row1 T l WS).length = WS.length := by unfold row1; rw [List.length_map]
      have hl2 : (row2 T l WS).length = WS.length := by unfold row2; rw [List.length_map]
      have hl3 : (row3 T l WS).length = WS.length := by unfold row3; rw [List.length_map]
      unfold rowsW at hRL
      have e1 : WS.map (textN l) = row1 T l WS := rfl
      rw [e1] at HS1 h1a
      (try rw [e1])
      (try rw [hl1])
      rw [hl1] at HS1 h1a
      have hq : ((WS.length : Int) == 0) = false := beq_eq_false_iff_ne.2 (by omega)
      have hq2 : ¬ ((WS.length : Int) = 0) := by omega
      have hq3 : ¬ (WS.length = 0) := by omega
      clear h0 HRT e1
      obtain ⟨sm, hsm⟩ : ∃ x, someB T l WS = x := ⟨_, rfl⟩
      rw [hsm] at hRL
      clear hsm
      cases sm with
      | false =>
       rw [if_neg (by simp)] at hRL
       rw [hRL] at HR8
       have hn1 : n5 = 1 := HR8.out.len.symm
       subst hn1
       obtain ⟨A1, c1, q0, s1, t1, t2⟩ := rowsC_cell (k := 0) HR8.out rfl
       rw [hl1] at q0 s1 t1
       have HSM := Lib.hid (strs_alike A1 B1 WS.length WS.length c1 d1 (row1 T l WS) w8 s1 HS1.out (by omega) (by omega))
       clear hRL s1 HR8
       go_wp2_with fail
       refine HSM.out.mono ?_
       rintro e w9 ⟨rfl, hb9⟩
       have HB9 := Lib.hid (HB8.out.trans (hb9.mono HB8.out.size))
       clear hb9 q0
       go_wp2_with fail
       refine (HA.out w9 HB9.out).mono ?_
       rintro e w10 ⟨rfl, hb10⟩
       have HB10 := Lib.hid (HBW.out _ (HB9.out.trans (hb10.mono HB9.out.size)))
       clear hb10
       go_wp2
       go_ret
       exact ⟨rfl, HB10.out⟩
      | true =>
       rw [if_pos rfl] at hRL
       rw [hRL] at HR8
       have hn1 : n5 = 3 := HR8.out.len.symm
       subst hn1
       obtain ⟨A1, c1, q0, s1, t1, t2⟩ := rowsC_cell (k := 0) HR8.out rfl
       obtain ⟨A2, c2, q1, s2, t3, t4⟩ := rowsC_cell (k := 1) HR8.out rfl
       obtain ⟨A3, c3, q2, s3, t5, t6⟩ := rowsC_cell (k := 2) HR8.out rfl
       rw [hl1] at q0 s1 t1
       rw [hl2] at q1
       rw [hl3] at q2
       have HSM := Lib.hid (strs_alike A1 B1 WS.length WS.length c1 d1 (row1 T l WS) w8 s1 HS1.out (by omega) (by omega))
       clear hRL s1 s2 s3 t3 t4 t5 t6 HR8
       have hbq : ((WS.length : Int) != (WS.length : Int)) = false := by simp
       go_wp2_with fail
       refine HSM.out.mono ?_
       rintro e w9 ⟨rfl, hb9⟩
       have HB9 := Lib.hid (HB8.out.trans (hb9.mono HB8.out.size))
       clear hb9 q0 q1 q2
       go_wp2_with fail
       refine (HA.out w9 HB9.out).mono ?_
       rintro e w10 ⟨rfl, hb10⟩
       have HB10 := Lib.hid (HBW.out _ (HB9.out.trans (hb10.mono HB9.out.size)))
       clear hb10
       go_wp2
       go_ret
       exact ⟨rfl, HB10.out⟩
end Go.Proofs.YthcabnfcgjnlnaaGreatDoor
