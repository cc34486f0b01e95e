import Derived.Test.YthcabnfcgjnlnaaGreatDoorE10
import Derived.Test.YthcabnfcgjnlnaaGreatDoorEx01
set_option linter.unusedVariables false
set_option linter.unusedSimpArgs false
namespace Go.Proofs.YthcabnfcgjnlnaaGreatDoor
open Go.RowKit Ru Lay
set_option maxHeartbeats 4000000 in
set_option maxRecDepth 100000 in
theorem refGroups_any (A : Option Addr) (n c : Nat) (l : List Int) (W : Int) (w : World) (h : IR w w.heap.size A n l) (hn : n ≤ 100000) (hl : ∀ x ∈ l, x ≤ 9223372036854775807) (hW : W ≤ 9223372036854775807) :
  Calls Tryz.prog 73 #[.slice A n c, .int .i64 W] w fun e w' => ∃ v, e = .returned v ∧ OwnG w' w.heap.size v (groups l W) ∧ Below w.heap.size w w' := by
 have HL := Lib.hid h
 have HLN := Lib.hid h.len
 have HRG := Lib.hid (gst_rng (c := l) (W := W) (M := 9223372036854775807) hl hW (by omega))
 clear h hl
 go_enter Tryz.func73, Tryz.ntmps73
 go_wp2_with fail
 go_loopw [5, 6, 7] (fun v5 v6 v7 wr => ∃ i : Nat, i ≤ n ∧ v7 = .int .i64 i ∧ v6 = .int .i64 (gst l W i).2 ∧ Hid (OwnG wr w.heap.size v5 (gst l W i).1) ∧ Hid (Below w.heap.size w wr)) (fun _ _ v7 _ => n - (intOf v7).toNat)
 case atStart => exact ⟨0, Nat.zero_le _, rfl, rfl, OwnG.nil _ _, Below.refl _ _⟩
 case round =>
  obtain ⟨i, hi, rfl, rfl, HO, HB⟩ := hrel
  obtain ⟨w0, hw0⟩ : ∃ w0, w0 = wr := ⟨_, rfl⟩
  rw [← hw0] at HO HB ⊢
  clear hw0
  obtain ⟨hu0, hu1⟩ := HRG.out i
  obtain ⟨u, hu⟩ : ∃ u, (gst l W i).2 = u := ⟨_, rfl⟩
  have HU := Lib.hid hu
  rw [hu] at hu0 hu1 ⊢
  clear hu
  by_cases hlt : i < n
  ·have hiz : (i : Int) < (n : Int) := by omega
   have hiA : (0 : Int) ≤ (i : Int) := by omega
   obtain ⟨ad, x, rfl, hadb, hx, hcx⟩ := HL.out.at_ hlt
   have hcx0 : w0.cell? (ad.add i) = some (.int .i64 x) := (HB.out.cell (by rw [block_of_add]; exact hadb)).trans hcx
   have HX : Hid (l.getD i 0 = x) := getD_at hx
   have hszw := HB.out.size
   have hgl := gst_len (c := l) (W := W) i
   have hmx : 0 ≤ max x 0 := Int.le_max_right _ _
   clear hx hcx
   by_cases hfit : Fit l W i
   ·have h1 := hfit.1
    have h2 : u ≤ W := by have := hfit.2.1; rw [HU.out] at this; exact this
    have h3 : max x 0 ≤ W - u - 1 := by have := hfit.2.2; rw [HU.out, HX.out] at this; exact this
    obtain ⟨done, f, hG, hf⟩ := gst_last (c := l) (W := W) i h1
    have HGN : Hid (gst l W (i + 1) = (done ++ [(f, i + 1)], u + 1 + max x 0)) := by show _ = _; rw [gst_yes hfit hG, HU.out, HX.out]
    rw [hG] at HO hgl
    obtain ⟨g, cap, rfl, hg1, hgl2, hfz, hcl, hst⟩ := HO.out.last
    have HST := Lib.hid hst
    obtain ⟨k, hk⟩ : ∃ k, done.length = k := ⟨_, rfl⟩
    rw [hk] at hfz hcl HST
    rw [List.length_append, hk, List.length_singleton] at hgl
    obtain ⟨n1, hn1⟩ : ∃ n1, n1 = k + 1 := ⟨_, rfl⟩
    rw [← hn1] at HST
    rw [hk, ← hn1]
    have hd0 : (0 : Int) < (i : Int) := by omega
    have hd1 : decide (u ≤ W) = true := decide_eq_true h2
    have hd2 : decide (max x 0 ≤ W - u - 1) = true := decide_eq_true h3
    have hj1 : wrap64 ((n1 : Int) - 1) = (k : Int) := by unfold wrap64; omega
    have hj2 : (n1 : Int) - 1 = (k : Int) := by omega
    have hj3 : n1 - 1 = k := by omega
    have hj4 : ((n1 : Int) - 1).toNat = k := by omega
    have hjn : (k : Int) < (n1 : Int) := by omega
    have hjn' : k < n1 := by omega
    have hjA : (0 : Int) ≤ (k : Int) := by omega
    have eaddr : (⟨g, 0, none⟩ : Addr).add (k * 2) = ⟨g, k * 2, none⟩ := by
     unfold Addr.add
     split
     ·rename_i h; simp [h]
     ·simp
    have HK := Lib.hid hk
    clear hfit hG hst hk hn1
    have hs := HST.out (i + 1)
    rw [show ((i + 1 : Nat) : Int) = (i : Int) + 1 from by omega] at hs
    have HO3 := Lib.hid hs.1
    have HB3 := Lib.hid (HB.out.trans hs.2)
    clear hs HST
    go_wp2
    go_roundw
    case rel => exact ⟨i + 1, by omega, by go_num, by rw [HGN.out], by show OwnG _ _ _ _; rw [HGN.out]; exact HO3.out, HB3.out⟩
    case measure => simp [intOf]; omega
   ·have HO2 : Hid (w0.ownsRow w.heap.size 108 2 _ (gst l W i).1.length (pairV (gst l W i).1)) := HO.out
    have HGN : Hid (gst l W (i + 1) = ((gst l W i).1 ++ [(i, i + 1)], max x 0)) := by show _ = _; rw [gst_no hfit, HX.out]
    obtain ⟨G, hG⟩ : ∃ G, (gst l W i).1 = G := ⟨_, rfl⟩
    rw [hG] at HO2 HGN hgl
    clear HO hG
    by_cases hi0 : 0 < i
    ·have hd0 : (0 : Int) < (i : Int) := by omega
     by_cases hf1 : u ≤ W
     ·have hd1 : decide (u ≤ W) = true := decide_eq_true hf1
      have hf2 : ¬ max x 0 ≤ W - u - 1 := fun h => hfit ⟨hi0, by rw [HU.out]; exact hf1, by rw [HX.out, HU.out]; exact h⟩
      have hd2 : decide (max x 0 ≤ W - u - 1) = false := decide_eq_false hf2
      clear hfit
      go_wp2_with (at_builtin; refine wpList_app2 rfl (.tmp 47) (.tmp 52) 105 rfl w.heap.size 108 16 _ info_pair rfl Tryz.underlying105 rfl HO2.out rfl rfl rfl (by omega) (by omega) hszw ?_; intro v7 w2 hown7 hb7)
      have HO3 : Hid (OwnG w2 w.heap.size v7 (gst l W (i + 1)).1) := by
       show World.ownsRow _ _ _ _ _ _ _
       rw [HGN.out, List.length_append, List.length_singleton, pairV_app]
       exact hown7
      have HB3 : Hid (Below w.heap.size w w2) := HB.out.trans hb7
      clear hown7 hb7
      go_wp2
      go_roundw
      case rel => exact ⟨i + 1, by omega, by go_num, by rw [HGN.out], HO3, HB3⟩
      case measure => simp [intOf]; omega
     ·have hd1 : decide (u ≤ W) = false := decide_eq_false hf1
      clear hfit
      go_wp2_with (at_builtin; refine wpList_app2 rfl (.tmp 47) (.tmp 52) 105 rfl w.heap.size 108 16 _ info_pair rfl Tryz.underlying105 rfl HO2.out rfl rfl rfl (by omega) (by omega) hszw ?_; intro v7 w2 hown7 hb7)
      have HO3 : Hid (OwnG w2 w.heap.size v7 (gst l W (i + 1)).1) := by
       show World.ownsRow _ _ _ _ _ _ _
       rw [HGN.out, List.length_append, List.length_singleton, pairV_app]
       exact hown7
      have HB3 : Hid (Below w.heap.size w w2) := HB.out.trans hb7
      clear hown7 hb7
      go_wp2
      go_roundw
      case rel => exact ⟨i + 1, by omega, by go_num, by rw [HGN.out], HO3, HB3⟩
      case measure => simp [intOf]; omega
    ·have HI0 : Hid (i = 0) := by show _ = _; omega
     have hd0 : ¬ (0 : Int) < (i : Int) := by omega
     clear hfit
     go_wp2_with (at_builtin; refine wpList_app2 rfl (.tmp 47) (.tmp 52) 105 rfl w.heap.size 108 16 _ info_pair rfl Tryz.underlying105 rfl HO2.out rfl rfl rfl (by omega) (by omega) hszw ?_; intro v7 w2 hown7 hb7)
     have HO3 : Hid (OwnG w2 w.heap.size v7 (gst l W (i + 1)).1) := by
      show World.ownsRow _ _ _ _ _ _ _
      rw [HGN.out, List.length_append, List.length_singleton, pairV_app]
      exact hown7
     have HB3 : Hid (Below w.heap.size w w2) := HB.out.trans hb7
     clear hown7 hb7
     go_wp2
     go_roundw
     case rel => exact ⟨i + 1, by omega, by go_num, by rw [HGN.out], HO3, HB3⟩
     case measure => simp [intOf]; omega
  ·obtain rfl : n = i := by omega
   have hfz : ¬ (n : Int) < (n : Int) := by omega
   have h0 := HO.out
   have h1 : (gst l W n).1 = groups l W := by unfold groups; rw [HLN.out]
   rw [h1] at h0
   have HO5 := Lib.hid h0
   clear h0 h1
   go_wp2
   go_ret
   exact ⟨_, rfl, HO5.out, HB.out⟩
end Go.Proofs.YthcabnfcgjnlnaaGreatDoor
namespace Go.Proofs.YthcabnfcgjnlnaaGreatDoor
open Go.RowKit Ru Lay
attribute [local go_sem ↓] Go.wp_at_zero Go.wp_at_succ
def PartI (W : World) (base : Nat) (v : Value) (P : List (List ByteArray)) : Prop :=
 ∃ us : List Value, W.ownsRow base 45 1 v P.length us ∧ us.length = P.length ∧ ∀ (j : Nat) (u : Value) (r : List ByteArray), us[j]? = some u → P[j]? = some r → OwnS W base u r ∧ Apart u v
theorem PartI.nil (W : World) (base : Nat) : PartI W base (.slice none 0 0) [] := ⟨[], World.ownsRow_nil _ _ _ _, rfl, fun j u r h => by simp at h⟩
theorem PartI.on {W W' : World} {base : Nat} {v : Value} {P : List (List ByteArray)} (h : PartI W base v P) (hb : Below W.heap.size W W') : PartI W' base v P := by
 obtain ⟨us, h1, h2, h3⟩ := h
 exact ⟨us, own_below h1 hb, h2, fun j u r hu hr => ⟨(h3 j u r hu hr).1.on hb, (h3 j u r hu hr).2⟩⟩
theorem PartI.rows {W : World} {base : Nat} {v : Value} {P : List (List ByteArray)} (h : PartI W base v P) : ∃ A c, v = .slice A P.length c ∧ RowsC W W.heap.size A P.length P := by
 obtain ⟨us, h1, h2, h3⟩ := h
 obtain ⟨A, c, rfl, _, _, hr⟩ := own_form h1
 refine ⟨A, c, rfl, us, hr, rfl, fun i l hl => ?_⟩
 have hlt := (List.getElem?_eq_some_iff.1 hl).1
 have hu : us[i]? = some (us[i]'(by omega)) := List.getElem?_eq_getElem (by omega)
 obtain ⟨A', c', e, h4, h5, hs⟩ := (h3 i _ l hu hl).1.form
 exact ⟨A', l.length, c', by rw [hu, e], hs, h4, h5⟩
theorem PartI.add {W W' : World} {base b2 : Nat} {v v' u : Value} {P : List (List ByteArray)} {us : List Value} {r : List ByteArray}
  (h1 : W'.ownsRow base 45 1 v' (P.length + 1) (us ++ [u])) (h2 : us.length = P.length) (h3 : ∀ (j : Nat) (u : Value) (r : List ByteArray), us[j]? = some u → P[j]? = some r → OwnS W base u r ∧ Apart u v)
  (hu : OwnS W b2 u r) (hb : base ≤ b2) (hv : ∀ b, v.ownBlock = some b → b < b2)
  (hk : ∀ (base2 e2 size2 : Nat) (u : Value) (m : Nat) (ys : List Value), W.ownsRow base2 e2 size2 u m ys → Apart u v → W'.ownsRow base2 e2 size2 u m ys ∧ Apart u v') : PartI W' base v' (P ++ [r]) := by
 refine ⟨us ++ [u], by rw [List.length_append]; exact h1, by rw [List.length_append, List.length_append, h2]; rfl, fun j t q ht hq => ?_⟩
 by_cases hlt : j < P.length
 ·rw [List.getElem?_append_left (by omega)] at ht
  rw [List.getElem?_append_left hlt] at hq
  obtain ⟨h4, h5⟩ := h3 j t q ht hq
  exact hk _ _ _ _ _ _ h4 h5
 ·rw [List.getElem?_append_right (by omega), h2] at ht
  rw [List.getElem?_append_right (by omega)] at hq
  have hj : j - P.length = 0 := by
   have := (List.getElem?_eq_some_iff.1 hq).1
   simp at this
   omega
  rw [hj] at ht hq
  simp at ht hq
  subst ht hq
  obtain ⟨h4, h5⟩ := hk _ _ _ _ _ _ (own_base hu hb) (fun b hb1 hb2 => by
   have := (World.ownsRow.lt hu b hb1).1
   have := hv b hb2
   omega)
  exact ⟨h4, h5⟩
theorem partR_len (L : List (List ByteArray)) (g : Nat × Nat) : (partR L g).length = L.length := by unfold partR; simp
theorem partR_sz {L : List (List ByteArray)} (h : SzL L) (g : Nat × Nat) (hg : g.2 ≤ 100000) : SzL (partR L g) := by
 refine ⟨by rw [partR_len]; exact h.1, fun r hr => ?_⟩
 obtain ⟨x, hx, rfl⟩ := List.mem_map.1 hr
 refine ⟨by simp; omega, fun s hs => ?_⟩
 obtain ⟨j, _, rfl⟩ := List.mem_map.1 hs
 exact (h.2 x hx).cellB _
def rowR (r : List ByteArray) (f q : Nat) : List ByteArray := (List.range q).map fun j => cellB r (f + j)
theorem rowR_succ (r : List ByteArray) (f q : Nat) : rowR r f (q + 1) = rowR r f q ++ [cellB r (f + q)] := by
 unfold rowR
 rw [List.range_succ, List.map_append]
 rfl
theorem rowR_len (r : List ByteArray) (f q : Nat) : (rowR r f q).length = q := by unfold rowR; simp
theorem partR_take {L : List (List ByteArray)} {k : Nat} {r : List ByteArray} (g : Nat × Nat) (h : L[k]? = some r) : (partR L g).take (k + 1) = (partR L g).take k ++ [rowR r g.1 (g.2 - g.1)] := by
 refine take_atG ?_
 unfold partR
 rw [List.getElem?_map, h]
 rfl
theorem PartI.lt {W : World} {base : Nat} {v : Value} {P : List (List ByteArray)} (h : PartI W base v P) : ∀ b, v.ownBlock = some b → b < W.heap.size := by
 obtain ⟨us, h1, _⟩ := h
 exact fun b hb => (h1.lt b hb).2
set_option maxHeartbeats 8000000 in
set_option maxRecDepth 100000 in
theorem refWrap_any (A : Option Addr) (n c : Nat) (L : List (List ByteArray)) (WD : Int) (w : World) (hL : RowsC w w.heap.size A n L) (hz : SzL L) (hW : WD ≤ 9223372036854775807) :
  Calls Tryz.prog 46 #[.slice A n c, .int .i64 WD] w fun e w' => ∃ v, e = .returned v ∧ OwnS w' w.heap.size v (wrapL L WD) ∧ Below w.heap.size w w' := by
 rw [wrapL_ref]
 have HL := Lib.hid hL
 have HZ := Lib.hid hz
 have HLN := Lib.hid hL.len
 have hn : n ≤ 100000 := by have := hL.len; have := hz.1; omega
 have HCO := Lib.hid (refColumns_any A n c L w hL hz)
 have hnm := hz.nmax
 have HCM : Hid (∀ x ∈ cols L, x ≤ 9223372036854775807) := fun x hx => by
  obtain ⟨k, _, rfl⟩ := List.mem_map.1 hx
  have := hz.col k
  omega
 clear hL hz
 go_enter Tryz.func46, Tryz.ntmps46
 go_wp2_with fail
 refine HCO.out.mono ?_
 rintro e w1 ⟨v, rfl, hown, hb⟩
 obtain ⟨CA, cc, rfl, _, _, hir⟩ := hown.form
 have HB1 := Lib.hid hb
 have HGR := Lib.hid (refGroups_any CA (cols L).length cc (cols L) WD w1 hir (by rw [cols_len]; exact hnm) HCM.out hW)
 clear hir hb hown HCO
 go_wp2_with fail
 refine HGR.out.mono ?_
 rintro e w2 ⟨v, rfl, hown, hb⟩
 have hgl := groups_len (cols L) WD
 rw [cols_len] at hgl
 obtain ⟨GA, gc, rfl, hgr⟩ := hown.form
 obtain ⟨G, hG⟩ : ∃ G, groups (cols L) WD = G := ⟨_, rfl⟩
 have HG := Lib.hid hG
 rw [hG] at hgr hgl ⊢
 obtain ⟨ng, hng⟩ : ∃ ng, G.length = ng := ⟨_, rfl⟩
 have HNG := Lib.hid hng
 rw [hng] at hgr hgl ⊢
 have HR := Lib.hid hgr
 have HB2 : Hid (Below w.heap.size w w2) := HB1.out.trans (hb.mono HB1.out.size)
 have hng2 : ng ≤ 100000 := by omega
 clear hgr hb hown HGR hG hng
 go_wp2_with fail
 go_loopw [5, 7] (fun v5 v7 wr => ∃ i : Nat, i ≤ ng ∧ v7 = .int .i64 i ∧ Hid (OwnS wr w2.heap.size v5 (wrapG (fun g => alignL (partR L g)) G i)) ∧ Hid (Below w2.heap.size w2 wr)) (fun _ v7 _ => ng - (intOf v7).toNat)
 case atStart => exact ⟨0, Nat.zero_le _, rfl, OwnS.nil _ _, Below.refl _ _⟩
 case round =>
  obtain ⟨i, hi, rfl, HO, HBR⟩ := hrel
  obtain ⟨w0, hw0⟩ : ∃ w0, wr = w0 := ⟨_, rfl⟩
  rw [hw0] at HO HBR ⊢
  clear hw0
  by_cases hlt : i < ng
  ·have hiz : (i : Int) < (ng : Int) := by omega
   have hiA : (0 : Int) ≤ (i : Int) := by omega
   obtain ⟨gd, p, rfl, hgb, hp, hc0, hc1⟩ := HR.out.at_ hlt
   obtain ⟨f, e⟩ := p
   have HG0 : Hid (∀ W, Below w2.heap.size w2 W → W.cell? (gd.add (i * 2)) = some (.int .i64 (f : Int))) := fun W hW => (hW.cell (by rw [block_of_add]; exact hgb)).trans hc0
   have HG1 : Hid (∀ W, Below w2.heap.size w2 W → W.cell? ⟨(gd.add (i * 2)).block, (gd.add (i * 2)).off + 1, none⟩ = some (.int .i64 (e : Int))) := fun W hW => (hW.cell (p := ⟨(gd.add (i * 2)).block, (gd.add (i * 2)).off + 1, none⟩) (by show (gd.add (i * 2)).block < _; rw [block_of_add]; exact hgb)).trans hc1
   have HP := Lib.hid hp
   obtain ⟨hfe, hel⟩ : f < e ∧ e ≤ 100000 := by
    have h1 := (groups_ok (cols L) WD).each i f e (by rw [HG.out]; exact hp)
    have h2 := h1.2.1
    rw [cols_len] at h2
    exact ⟨h1.1, by omega⟩
   have HI := Lib.hid hlt
   have hwl := wrapG_le (f := fun g => alignL (partR L g)) (G := G) (m := n) (fun g => by rw [alignL_len, partR_len, HLN.out]) i
   have hwl2 : i * (n + 1) ≤ 100000 * 100001 := Nat.mul_le_mul (by omega) (by omega)
   obtain ⟨OL, hOL⟩ : ∃ OL, wrapG (fun g => alignL (partR L g)) G i = OL := ⟨_, rfl⟩
   have hwl3 : OL.length ≤ 10000100000 := by rw [← hOL]; omega
   have hGi : G.getD i (0, 0) = (f, e) := getD_at HP.out
   have hsz0 := HBR.out.size
   rw [hOL] at HO
   clear hc0 hc1 hp hwl hwl2
   by_cases hi0 : 0 < i
   ·have hi0z : (0 : Int) < (i : Int) := by omega
    have HWN : Hid (wrapG (fun g => alignL (partR L g)) G (i + 1) = (OL ++ [⟨#[]⟩]) ++ alignL (partR L (f, e))) := by
     show wrapG (fun g => alignL (partR L g)) G i ++ (if 0 < i then [(⟨#[]⟩ : ByteArray)] else []) ++ alignL (partR L (G.getD i (0, 0))) = _
     rw [if_pos hi0, hGi, hOL]
    clear hOL hGi
    go_wp2_with (at_builtin; refine wpList_app1 rfl (.tmp 24) (.tmp 25) 45 rfl w2.heap.size 9 16 (.string .empty) info_string rfl Tryz.underlying45 rfl HO.out rfl rfl (by omega) (by omega) hsz0 ?_; intro v3 w3 hown3 hb3 hs3 hk3)
    have HO3 := Lib.hid (own_s (n := 0) hown3)
    have HB3 : Hid (Below w2.heap.size w2 w3) := HBR.out.trans hb3
    have hol : (OL ++ [(⟨#[]⟩ : ByteArray)]).length ≤ 10000100001 := by rw [List.length_append, List.length_singleton]; omega
    clear hown3 hb3 hs3 hk3 HO
    go_wp2_with fail
    go_loopw [8, 9] (fun v8 v9 wi => ∃ k : Nat, k ≤ n ∧ v9 = .int .i64 k ∧ Hid (PartI wi w3.heap.size v8 ((partR L (f, e)).take k)) ∧ Hid (Below w3.heap.size w3 wi)) (fun _ v9 _ => n - (intOf v9).toNat)
    case atStart => exact ⟨0, Nat.zero_le _, rfl, (by rw [List.take_zero]; exact PartI.nil _ _), Below.refl _ _⟩
    case round =>
     obtain ⟨k, hk, rfl, HPA, HBI⟩ := hrel
     obtain ⟨wk, hwk⟩ : ∃ wk, wk = wr := ⟨_, rfl⟩
     rw [← hwk] at HPA HBI ⊢
     clear hwk
     have HBK : Hid (Below w2.heap.size w2 wk) := HB3.out.trans (HBI.out.mono HB3.out.size)
     by_cases hkl : k < n
     ·have hkz : (k : Int) < (n : Int) := by omega
      have hkA : (0 : Int) ≤ (k : Int) := by omega
      obtain ⟨ad, r, RA, rn, rc, rfl, hadb, hr, hcr, hsr, hrc1, hrc2⟩ := HL.out.at_ hkl
      have HCR : Hid (∀ W, Below w2.heap.size w2 W → W.cell? (ad.add k) = some (.slice RA rn rc)) := fun W hW => ((HB2.out.trans (hW.mono HB2.out.size)).cell (by rw [block_of_add]; exact hadb)).trans hcr
      have hrn : rn ≤ 100000 := by have := hsr.len; have := (HZ.out.row hr).1; omega
      have HSR := Lib.hid hsr
      have HNX : Hid ((partR L (f, e)).take (k + 1) = (partR L (f, e)).take k ++ [rowR r f (e - f)]) := partR_take (f, e) hr
      have HSZ := Lib.hid (HZ.out.row hr)
      have hpl : ((partR L (f, e)).take k).length = k := by rw [List.length_take, partR_len, HLN.out]; omega
      have HPL := Lib.hid hpl
      have HKL := Lib.hid hkl
      have hg0 := HG0.out _ HBK.out
      clear hr hcr hsr hpl
      go_wp2_with fail
      have HPA0 := HPA
      go_loopw [10, 11] (fun v10 v11 wj => ∃ q : Nat, f + q ≤ e ∧ v11 = .int .i64 ((f + q : Nat) : Int) ∧ Hid (OwnS wj wk.heap.size v10 (rowR r f q)) ∧ Hid (Below wk.heap.size wk wj)) (fun _ v11 _ => e - (intOf v11).toNat)
      case atStart => exact ⟨0, by omega, by rw [Nat.add_zero], OwnS.nil _ _, Below.refl _ _⟩
      case round =>
       obtain ⟨q, hq, rfl, HRW, HBJ⟩ := hrel
       obtain ⟨wj, hwj⟩ : ∃ wj, wj = wr := ⟨_, rfl⟩
       rw [← hwj] at HRW HBJ ⊢
       clear hwj
       have HBJ2 : Hid (Below w2.heap.size w2 wj) := HBK.out.trans (HBJ.out.mono HBK.out.size)
       have hg1 := HG1.out _ HBJ2.out
       have hcr1 := HCR.out _ HBJ2.out
       obtain ⟨j, hj⟩ : ∃ j, f + q = j := ⟨_, rfl⟩
       have HJ := Lib.hid hj
       rw [hj] at hq ⊢
       clear hj
       by_cases hjl : j < e
       ·have hjz : (j : Int) < (e : Int) := by omega
        have HCE := Lib.hid (cell_any RA rn rc r j wj (SR.on HSR.out (HB2.out.trans (HBJ2.out.mono HB2.out.size))) (by omega) (by omega))
        have hrl := rowR_len r f q
        have HRN : Hid (rowR r f (q + 1) = rowR r f q ++ [cellB r j]) := by show _ = _; rw [rowR_succ, HJ.out]
        obtain ⟨R, hR⟩ : ∃ R, rowR r f q = R := ⟨_, rfl⟩
        have hRl : R.length ≤ e := by rw [← hR, hrl]; have := HJ.out; omega
        rw [hR] at HRW HRN
        have hszj := HBJ.out.size
        clear hrl hR
        go_wp2_with fail
        refine HCE.out.mono ?_
        rintro e5 w5 ⟨rfl, rfl⟩
        go_wp2_with (at_builtin; refine wpList_app1 rfl (.tmp 47) (.tmp 54) 45 rfl wk.heap.size 9 16 (.string .empty) info_string rfl Tryz.underlying45 rfl HRW.out rfl rfl (by omega) (by omega) hszj ?_; intro v6 w6 hown6 hb6 hs6 hk6)
        have hrw6 := own_s (n := 0) hown6
        rw [← HRN.out] at hrw6
        have HRW6 := Lib.hid hrw6
        have HB6 : Hid (Below wk.heap.size wk w6) := HBJ.out.trans hb6
        clear hown6 hb6 hs6 hk6 hrw6 hg1 hcr1
        go_wp2
        go_roundw
        case rel => exact ⟨q + 1, by have := HJ.out; omega, by rw [show f + (q + 1) = j + 1 by have := HJ.out; omega]; go_num, HRW6, HB6⟩
        case measure => simp [intOf]; omega
       ·obtain rfl : j = e := by omega
        have hjz : ¬ (j : Int) < (j : Int) := by omega
        have h0 := HRW.out
        rw [show q = j - f by have := HJ.out; omega] at h0
        obtain ⟨us, hx1, hx2, hx3⟩ := HPA0.out.on HBJ.out
        obtain ⟨VA, vc, hvf, hv1, hv2, _⟩ := h0.form
        subst hvf
        have HRW5 := Lib.hid h0
        rw [HPL.out] at hx1
        have HX1 := Lib.hid hx1
        have HX2 := Lib.hid hx2
        have HX3 := Lib.hid hx3
        have hap : ∀ b, Value.ownBlock _ = some b → b < wk.heap.size := fun b hb => (HPA0.out.lt b hb)
        have HAP := Lib.hid hap
        have hszj : w3.heap.size ≤ wj.heap.size := Nat.le_trans HBI.out.size HBJ.out.size
        clear hx1 hx2 hx3 h0 hap hcr1
        go_wp2_with (at_builtin; refine wpList_app1 rfl (.tmp 56) (.tmp 58) 41 rfl w3.heap.size 45 24 (.slice none 0 0) info_strings rfl Tryz.underlying41 rfl HX1.out rfl rfl (by omega) (by omega) hszj ?_; intro v7 w7 hown7 hb7 hs7 hk7)
        rw [← HPL.out] at hown7
        have hpa7 := PartI.add hown7 HX2.out HX3.out HRW5.out HBI.out.size HAP.out hk7
        rw [← HNX.out] at hpa7
        have HPA7 := Lib.hid hpa7
        have HB7 : Hid (Below w3.heap.size w3 w7) := (HBI.out.trans (HBJ.out.mono HBI.out.size)).trans hb7
        have hk1 : k + 1 ≤ n := HKL.out
        clear hown7 hb7 hs7 hk7 hpa7 hg1
        go_wp2
        go_roundw
        case rel => exact ⟨k + 1, hk1, by go_num, HPA7, HB7⟩
        case measure => have := HKL.out; simp [intOf]; omega
     ·obtain rfl : n = k := by omega
      have hkz : ¬ (n : Int) < (n : Int) := by omega
      have h0 := HPA.out
      rw [List.take_of_length_le (by rw [partR_len, HLN.out]; exact Nat.le_refl _)] at h0
      obtain ⟨PA, pc, hpv, hrows⟩ := h0.rows
      rw [partR_len, HLN.out] at hrows hpv
      subst hpv
      have HAL := Lib.hid (refAlign_any PA n pc (partR L (f, e)) wk hrows (partR_sz HZ.out (f, e) (by show e ≤ _; omega)))
      have HO7 := Lib.hid (HO3.out.on HBI.out)
      clear h0 hrows
      go_wp2_with fail
      refine HAL.out.mono ?_
      rintro e8 w8 ⟨v8, rfl, hown8, hb8⟩
      obtain ⟨A8, c8, rfl, h81, h82, hr8⟩ := hown8.form
      rw [alignL_len, partR_len, HLN.out] at hr8 ⊢
      have HR8 := Lib.hid hr8
      have HO8 := Lib.hid (HO7.out.on hb8)
      have HB8 : Hid (Below w2.heap.size w2 w8) := HBK.out.trans (hb8.mono HBK.out.size)
      have hsz8 := HB8.out.size
      clear hown8 hb8 hr8 h81 h82
      go_wp2_with (at_builtin; refine wpList_app rfl (.tmp 60) (.tmp 62) 45 rfl w2.heap.size 9 16 (.string .empty) info_string rfl Tryz.underlying45 rfl HO8.out rfl HR8.out (by simp [Value.oneCell']) (by omega) (by omega) hsz8 ?_; intro v9 w9 hown hg hat)
      have HO9 : Hid (OwnS w9 w2.heap.size v9 (wrapG (fun g => alignL (partR L g)) G (i + 1))) := by
       show World.ownsRow _ _ _ _ _ _ _
       rw [HWN.out, List.length_append, alignL_len, partR_len, HLN.out, List.map_append]
       exact hown
      have HB9 : Hid (Below w2.heap.size w2 w9) := HB8.out.grown hg hsz8 (fun k hk => (HO8.out.lt k hk).1)
      clear hown hg hat
      have hi1 : i + 1 ≤ ng := HI.out
      go_wp2
      go_roundw
      case rel => exact ⟨i + 1, hi1, by go_num, HO9, HB9⟩
      case measure => have := HI.out; simp [intOf]; omega
   ·have hi0z : ¬ (0 : Int) < (i : Int) := by omega
    have HI0 : Hid (i = 0) := by show _ = _; omega
    have HWN : Hid (wrapG (fun g => alignL (partR L g)) G (i + 1) = OL ++ alignL (partR L (f, e))) := by
     show wrapG (fun g => alignL (partR L g)) G i ++ (if 0 < i then [(⟨#[]⟩ : ByteArray)] else []) ++ alignL (partR L (G.getD i (0, 0))) = _
     rw [if_neg hi0, hGi, hOL, List.append_nil]
    have HO3 := HO
    have HB3 := HBR
    have hol : OL.length ≤ 10000100001 := by omega
    clear hOL hGi HO hi0
    go_wp2_with fail
    go_loopw [8, 9] (fun v8 v9 wi => ∃ k : Nat, k ≤ n ∧ v9 = .int .i64 k ∧ Hid (PartI wi w0.heap.size v8 ((partR L (f, e)).take k)) ∧ Hid (Below w0.heap.size w0 wi)) (fun _ v9 _ => n - (intOf v9).toNat)
    case atStart => exact ⟨0, Nat.zero_le _, rfl, (by rw [List.take_zero]; exact PartI.nil _ _), Below.refl _ _⟩
    case round =>
     obtain ⟨k, hk, rfl, HPA, HBI⟩ := hrel
     obtain ⟨wk, hwk⟩ : ∃ wk, wk = wr := ⟨_, rfl⟩
     rw [← hwk] at HPA HBI ⊢
     clear hwk
     have HBK : Hid (Below w2.heap.size w2 wk) := HB3.out.trans (HBI.out.mono HB3.out.size)
     by_cases hkl : k < n
     ·have hkz : (k : Int) < (n : Int) := by omega
      have hkA : (0 : Int) ≤ (k : Int) := by omega
      obtain ⟨ad, r, RA, rn, rc, rfl, hadb, hr, hcr, hsr, hrc1, hrc2⟩ := HL.out.at_ hkl
      have HCR : Hid (∀ W, Below w2.heap.size w2 W → W.cell? (ad.add k) = some (.slice RA rn rc)) := fun W hW => ((HB2.out.trans (hW.mono HB2.out.size)).cell (by rw [block_of_add]; exact hadb)).trans hcr
      have hrn : rn ≤ 100000 := by have := hsr.len; have := (HZ.out.row hr).1; omega
      have HSR := Lib.hid hsr
      have HNX : Hid ((partR L (f, e)).take (k + 1) = (partR L (f, e)).take k ++ [rowR r f (e - f)]) := partR_take (f, e) hr
      have HSZ := Lib.hid (HZ.out.row hr)
      have hpl : ((partR L (f, e)).take k).length = k := by rw [List.length_take, partR_len, HLN.out]; omega
      have HPL := Lib.hid hpl
      have HKL := Lib.hid hkl
      have hg0 := HG0.out _ HBK.out
      clear hr hcr hsr hpl
      go_wp2_with fail
      have HPA0 := HPA
      go_loopw [10, 11] (fun v10 v11 wj => ∃ q : Nat, f + q ≤ e ∧ v11 = .int .i64 ((f + q : Nat) : Int) ∧ Hid (OwnS wj wk.heap.size v10 (rowR r f q)) ∧ Hid (Below wk.heap.size wk wj)) (fun _ v11 _ => e - (intOf v11).toNat)
      case atStart => exact ⟨0, by omega, by rw [Nat.add_zero], OwnS.nil _ _, Below.refl _ _⟩
      case round =>
       obtain ⟨q, hq, rfl, HRW, HBJ⟩ := hrel
       obtain ⟨wj, hwj⟩ : ∃ wj, wj = wr := ⟨_, rfl⟩
       rw [← hwj] at HRW HBJ ⊢
       clear hwj
       have HBJ2 : Hid (Below w2.heap.size w2 wj) := HBK.out.trans (HBJ.out.mono HBK.out.size)
       have hg1 := HG1.out _ HBJ2.out
       have hcr1 := HCR.out _ HBJ2.out
       obtain ⟨j, hj⟩ : ∃ j, f + q = j := ⟨_, rfl⟩
       have HJ := Lib.hid hj
       rw [hj] at hq ⊢
       clear hj
       by_cases hjl : j < e
       ·have hjz : (j : Int) < (e : Int) := by omega
        have HCE := Lib.hid (cell_any RA rn rc r j wj (SR.on HSR.out (HB2.out.trans (HBJ2.out.mono HB2.out.size))) (by omega) (by omega))
        have hrl := rowR_len r f q
        have HRN : Hid (rowR r f (q + 1) = rowR r f q ++ [cellB r j]) := by show _ = _; rw [rowR_succ, HJ.out]
        obtain ⟨R, hR⟩ : ∃ R, rowR r f q = R := ⟨_, rfl⟩
        have hRl : R.length ≤ e := by rw [← hR, hrl]; have := HJ.out; omega
        rw [hR] at HRW HRN
        have hszj := HBJ.out.size
        clear hrl hR
        go_wp2_with fail
        refine HCE.out.mono ?_
        rintro e5 w5 ⟨rfl, rfl⟩
        go_wp2_with (at_builtin; refine wpList_app1 rfl (.tmp 47) (.tmp 54) 45 rfl wk.heap.size 9 16 (.string .empty) info_string rfl Tryz.underlying45 rfl HRW.out rfl rfl (by omega) (by omega) hszj ?_; intro v6 w6 hown6 hb6 hs6 hk6)
        have hrw6 := own_s (n := 0) hown6
        rw [← HRN.out] at hrw6
        have HRW6 := Lib.hid hrw6
        have HB6 : Hid (Below wk.heap.size wk w6) := HBJ.out.trans hb6
        clear hown6 hb6 hs6 hk6 hrw6 hg1 hcr1
        go_wp2
        go_roundw
        case rel => exact ⟨q + 1, by have := HJ.out; omega, by rw [show f + (q + 1) = j + 1 by have := HJ.out; omega]; go_num, HRW6, HB6⟩
        case measure => simp [intOf]; omega
       ·obtain rfl : j = e := by omega
        have hjz : ¬ (j : Int) < (j : Int) := by omega
        have h0 := HRW.out
        rw [show q = j - f by have := HJ.out; omega] at h0
        obtain ⟨us, hx1, hx2, hx3⟩ := HPA0.out.on HBJ.out
        obtain ⟨VA, vc, hvf, hv1, hv2, _⟩ := h0.form
        subst hvf
        have HRW5 := Lib.hid h0
        rw [HPL.out] at hx1
        have HX1 := Lib.hid hx1
        have HX2 := Lib.hid hx2
        have HX3 := Lib.hid hx3
        have hap : ∀ b, Value.ownBlock _ = some b → b < wk.heap.size := fun b hb => (HPA0.out.lt b hb)
        have HAP := Lib.hid hap
        have hszj : w0.heap.size ≤ wj.heap.size := Nat.le_trans HBI.out.size HBJ.out.size
        clear hx1 hx2 hx3 h0 hap hcr1
        go_wp2_with (at_builtin; refine wpList_app1 rfl (.tmp 56) (.tmp 58) 41 rfl w0.heap.size 45 24 (.slice none 0 0) info_strings rfl Tryz.underlying41 rfl HX1.out rfl rfl (by omega) (by omega) hszj ?_; intro v7 w7 hown7 hb7 hs7 hk7)
        rw [← HPL.out] at hown7
        have hpa7 := PartI.add hown7 HX2.out HX3.out HRW5.out HBI.out.size HAP.out hk7
        rw [← HNX.out] at hpa7
        have HPA7 := Lib.hid hpa7
        have HB7 : Hid (Below w0.heap.size w0 w7) := (HBI.out.trans (HBJ.out.mono HBI.out.size)).trans hb7
        have hk1 : k + 1 ≤ n := HKL.out
        clear hown7 hb7 hs7 hk7 hpa7 hg1
        go_wp2
        go_roundw
        case rel => exact ⟨k + 1, hk1, by go_num, HPA7, HB7⟩
        case measure => have := HKL.out; simp [intOf]; omega
     ·obtain rfl : n = k := by omega
      have hkz : ¬ (n : Int) < (n : Int) := by omega
      have h0 := HPA.out
      rw [List.take_of_length_le (by rw [partR_len, HLN.out]; exact Nat.le_refl _)] at h0
      obtain ⟨PA, pc, hpv, hrows⟩ := h0.rows
      rw [partR_len, HLN.out] at hrows hpv
      subst hpv
      have HAL := Lib.hid (refAlign_any PA n pc (partR L (f, e)) wk hrows (partR_sz HZ.out (f, e) (by show e ≤ _; omega)))
      have HO7 := Lib.hid (HO3.out.on HBI.out)
      clear h0 hrows
      go_wp2_with fail
      refine HAL.out.mono ?_
      rintro e8 w8 ⟨v8, rfl, hown8, hb8⟩
      obtain ⟨A8, c8, rfl, h81, h82, hr8⟩ := hown8.form
      rw [alignL_len, partR_len, HLN.out] at hr8 ⊢
      have HR8 := Lib.hid hr8
      have HO8 := Lib.hid (HO7.out.on hb8)
      have HB8 : Hid (Below w2.heap.size w2 w8) := HBK.out.trans (hb8.mono HBK.out.size)
      have hsz8 := HB8.out.size
      clear hown8 hb8 hr8 h81 h82
      go_wp2_with (at_builtin; refine wpList_app rfl (.tmp 60) (.tmp 62) 45 rfl w2.heap.size 9 16 (.string .empty) info_string rfl Tryz.underlying45 rfl HO8.out rfl HR8.out (by simp [Value.oneCell']) (by omega) (by omega) hsz8 ?_; intro v9 w9 hown hg hat)
      have HO9 : Hid (OwnS w9 w2.heap.size v9 (wrapG (fun g => alignL (partR L g)) G (i + 1))) := by
       show World.ownsRow _ _ _ _ _ _ _
       rw [HWN.out, List.length_append, alignL_len, partR_len, HLN.out, List.map_append]
       exact hown
      have HB9 : Hid (Below w2.heap.size w2 w9) := HB8.out.grown hg hsz8 (fun k hk => (HO8.out.lt k hk).1)
      clear hown hg hat
      have hi1 : i + 1 ≤ ng := HI.out
      go_wp2
      go_roundw
      case rel => exact ⟨i + 1, hi1, by go_num, HO9, HB9⟩
      case measure => have := HI.out; simp [intOf]; omega
  ·obtain rfl : ng = i := by omega
   have hiz : ¬ (ng : Int) < (ng : Int) := by omega
   have h0 := HO.out
   rw [show wrapG (fun g => alignL (partR L g)) G ng = wrapG (fun g => alignL (partR L g)) (groups (cols L) WD) (groups (cols L) WD).length by rw [HG.out, HNG.out]] at h0
   have HO5 := Lib.hid h0
   clear h0
   go_wp2
   go_ret
   exact ⟨_, rfl, own_base HO5.out HB2.out.size, HB2.out.trans (HBR.out.mono HB2.out.size)⟩
theorem exL_ref {T : List Ti} {l : List Nt} (h : DocOk T l) (id : Int) (K : Nat) (WD : Int) :
  exL T l id K WD = wrapL (rowsL T l id K) WD ++ (kidF T l id (roleT T 5)).map (fun x => quoB (textN l x)) := by
 unfold exL
 cases hb : (getN l id).isSome with
 | true => rfl
 | false =>
  have h0 : rowsL T l id K = [] := by unfold rowsL; rw [hb]; rfl
  have h1 : wrapL ([] : List (List ByteArray)) WD = [] := wrapL_none rfl
  have hn : getN l id = none := by
   cases e : getN l id with
   | none => rfl
   | some x => rw [e] at hb; cases hb
  have h2 : kidF T l id (roleT T 5) = [] := by
   rcases roleT_some T 5 with e | ⟨h0, h1, h2, _⟩
   ·unfold kidF ofI
    rw [e, if_pos (by omega)]
    rfl
   ·refine kidF_none h hn _ ?_
    have h3 := (h.at_ h0 h1).2
    rw [h2] at h3
    have h4 : kind11 5 ≠ 0 ∧ 0 ≤ kind11 5 := by decide
    rw [h3 h4.2]
    exact h4.1
  rw [h0, h1, h2]
  rfl
theorem kidF_len {T : List Ti} {l : List Nt} {id t : Int} : (kidF T l id t).length ≤ l.length := by
 unfold kidF
 exact Nat.le_trans (List.length_filter_le _ _) ofI_len
theorem kidF_neg {T : List Ti} {l : List Nt} {id t : Int} (h : t < 0) : kidF T l id t = [] := by
 unfold kidF ofI
 rw [if_pos (Or.inl h)]
 rfl
theorem one_strE (l : List ByteArray) : ∀ u ∈ l.map Value.string, u.oneCell' = true := fun u hu => by
 obtain ⟨s, _, rfl⟩ := List.mem_map.1 hu
 rfl
set_option maxHeartbeats 8000000 in
set_option maxRecDepth 100000 in
theorem refExample_any (d : Dv) (T : List Ti) (l : List Nt) (id : Int) (K : Nat) (WD : Int) (w : World) (hT : TiersR w w.heap.size d.ta d.tn T) (hl : NotesR w w.heap.size d.na d.nn l) (hok : DocOk T l) (hn : d.nn < 20) (htn : d.tn ≤ 1000000)
  (hend : ∀ x, curF l x K = none) (hK : K ≤ d.tn + 1) (hWD : WD ≤ 9223372036854775807) :
  Calls Tryz.prog 23 #[docV d, .int .i64 id, .int .i64 WD] w fun e w' => ∃ v, e = .returned v ∧ OwnS w' w.heap.size v (exL T l id K WD) ∧ Below w.heap.size w w' := by
 have hTl := hT.len
 have hNl := hl.len
 have hz : TxtZ l := fun y hy => hok.text hy
 have HRW : Hid (∀ W, Below w.heap.size w W → Calls Tryz.prog 20 #[docV d, .int .i64 id] W fun e w' => (∃ v, e = .returned v ∧ RwO (rowsL T l id K) v w') ∧ Below W.heap.size W w') := fun W hW => (refRows_any d T l id K W (hT.on hW) (hl.on hW) hok hn htn hend hK).mono fun e w' ⟨h1, h2⟩ => ⟨RwO.of h1, h2⟩
 have HG := Lib.hid fun (W : World) (hW : Below w.heap.size w W) (i : Int) => refGet_any d l i W (hl.on hW) (by omega)
 have HRO := Lib.hid fun (W : World) (hW : Below w.heap.size w W) => refRole_any d.ta d.tn d.tc T 5 W (hT.on hW) (by omega)
 have hrl := roleT_some T 5
 have HOF := Lib.hid fun (h0 : 0 ≤ roleT T 5 ∧ roleT T 5 < (T.length : Int)) (W : World) (hW : Below w.heap.size w W) => refKids_any d T l id (roleT T 5) W hok.light (hT.on hW) (hl.on hW) hn h0
 have HNG := Lib.hid fun (h : roleT T 5 < 0) => kidF_neg (T := T) (l := l) (id := id) h
 have hlen : (kidF T l id (roleT T 5)).length ≤ 20 := by have := kidF_len (T := T) (l := l) (id := id) (t := roleT T 5); omega
 have HSZ := Lib.hid (rowsL_sz (T := T) (id := id) (K := K) hz (by omega))
 have HTX := Lib.hid (txtZ_get hz)
 have hwl : (wrapL (rowsL T l id K) WD).length ≤ 100 := wrapL_short (rowsL_few T l id K (by omega))
 have hrl2 : roleT T 5 < 0 ∨ (0 ≤ roleT T 5 ∧ roleT T 5 < (T.length : Int)) := by rcases hrl with e | ⟨h0, h1, _⟩ <;> omega
 have HRL := Lib.hid hrl2
 rw [exL_ref hok]
 clear hT hl hok hend hz hTl hrl hNl hrl2
 obtain ⟨rt, hrt⟩ : ∃ x, roleT T 5 = x := ⟨_, rfl⟩
 rw [hrt] at HRO HOF HNG HRL hlen ⊢
 obtain ⟨ks, hks⟩ : ∃ x, kidF T l id rt = x := ⟨_, rfl⟩
 rw [hks] at HOF HNG hlen ⊢
 obtain ⟨RL, hRL⟩ : ∃ x, rowsL T l id K = x := ⟨_, rfl⟩
 rw [hRL] at HRW HSZ hwl ⊢
 obtain ⟨WL, hWL⟩ : ∃ x, wrapL RL WD = x := ⟨_, rfl⟩
 have HWL := Lib.hid hWL
 rw [hWL] at hwl ⊢
 clear hrt hks hRL hWL
 unfold docV at HRW HG HOF
 unfold docV
 obtain ⟨rid, name, len, day, sa, sn, sc, ta, tn, tc, na, nn, nc⟩ := d
 simp only at HRW HG HRO HOF hn htn ⊢
 obtain ⟨W0, hW0, hz0, hB0, hK0⟩ := doc_cells w rid name len day sa ta na sn sc tn tc nn nc
 have HB := Lib.hid hB0
 have HK := Lib.hid hK0
 have HBW : Hid (∀ W, Below W0.heap.size W0 W → Below w.heap.size w W) := fun W hW => HB.out.trans (hW.mono HB.out.size)
 clear hB0 hK0
 have HR0 := Lib.hid (HRW.out W0 HB.out)
 go_enter Tryz.func23, Tryz.ntmps23
 go_upto_region 1 with fail
 (try rw [hW0])
 clear hW0 HRW
 obtain ⟨k0, k1, k2, k3, k4, k5, k6⟩ := range7 (HK.out W0 (Below.refl _ _))
 go_wp2_with fail
 refine HR0.out.mono ?_
 rintro e w2 ⟨⟨v2, rfl, A2, n2, c2, rfl, hRC, hn2⟩, hb2⟩
 have HB2 := Lib.hid hb2
 have HWR := Lib.hid (refWrap_any A2 n2 c2 RL WD w2 hRC HSZ.out hWD)
 rw [HWL.out] at HWR
 have hz02 := HB2.out.size
 clear hb2 k0 k1 k2 k3 k4 k5 k6 HR0 hRC hn2
 go_wp2_with fail
 refine HWR.out.mono ?_
 rintro e w3 ⟨v8, rfl, hO8, hb3⟩
 obtain ⟨A8, c8, hv8, h8a, h8b, h8r⟩ := OwnS.form hO8
 subst hv8
 have HS8 := Lib.hid h8r
 have HB3 := Lib.hid (HB2.out.trans (hb3.mono HB2.out.size))
 have hz03 := HB3.out.size
 clear hO8 hb3 HWR h8r
 go_upto_region 3 with (at_builtin; refine wpList_app rfl (.tmp 13) (.tmp 18) 45 rfl w3.heap.size 9 16 (.string .empty) info_string rfl Tryz.underlying45 rfl (n := 0) (World.ownsRow_nil _ _ _ _) (A := A8) (m := WL.length) (c := c8) rfl HS8.out (one_strE _) (by omega) (by omega) (Nat.le_refl _) ?_; intro v7 w4 hown hg hat)
 have HO4 : Hid (OwnS w4 w3.heap.size v7 WL) := by
  rw [Nat.zero_add, List.nil_append] at hown
  exact hown
 have hb34 : Below w3.heap.size w3 w4 := below_app (Below.refl _ w3) (show w3.ownsRow w3.heap.size 9 1 (.slice none 0 0) 0 [] from World.ownsRow_nil _ _ _ _) hg (Nat.le_refl _) (Nat.le_refl _)
 have HB34 := Lib.hid hb34
 have HB4 := Lib.hid (HB3.out.trans (hb34.mono HB3.out.size))
 have hz34 := hb34.size
 clear hown hg hat hb34 HS8
 have k5 : w4.cell? ⟨w.heap.size, 5, none⟩ = some (.slice ta tn tc) := HK.out w4 HB4.out 5 _ rfl
 have HRR := Lib.hid (HRO.out w4 (HBW.out _ HB4.out))
 go_wp2_with fail
 refine HRR.out.mono ?_
 rintro e w5 ⟨rfl, hb5⟩
 have HO5 := Lib.hid (HO4.out.on hb5)
 have HB35 := Lib.hid (HB34.out.trans (hb5.mono hz34))
 have HB5 := Lib.hid (HB4.out.trans (hb5.mono HB4.out.size))
 have hz35 := HB35.out.size
 clear hb5 k5 HRR HO4
 rcases HRL.out with hlt0 | hge0
 ·have HZR := HNG.out hlt0
  subst HZR
  go_wp2
  go_ret
  exact ⟨_, rfl, by rw [List.map_nil, List.append_nil]; exact own_base HO5.out (by have := HB.out.size; omega), HBW.out _ HB5.out⟩
 ·have hnl : ¬ rt < 0 := by omega
  have HOO := Lib.hid (HOF.out hge0 w5 (HBW.out _ HB5.out))
  clear hge0 HOF HNG HRL
  obtain ⟨k0, k1, k2, k3, k4, k5, k6⟩ := range7 (HK.out w5 HB5.out)
  go_wp2_with fail
  refine HOO.out.mono ?_
  rintro e w6 ⟨v9, rfl, hO9, hb6⟩
  obtain ⟨A9, c9, hv9, h9a, h9b, h9r⟩ := OwnI.form hO9
  subst hv9
  have HB6 := Lib.hid (HB5.out.trans (hb6.mono HB5.out.size))
  have HB36 := Lib.hid (HB35.out.trans (hb6.mono hz35))
  have HO6 := Lib.hid (HO5.out.on hb6)
  have HI6 := Lib.hid hO9
  have HAP6 : Hid (Apart (.slice A9 ks.length c9) v7) := fun b hb he => by
   have h1 := (hO9.lt b hb).1
   have h2 := (HO5.out.lt b he).2
   omega
  clear hO9 hb6 h9a h9b h9r k0 k1 k2 k3 k4 k5 k6 HOO HO5
  go_wp2_with fail
  go_loopw [7, 10, 11, 12, 32] (fun v7 v10 v11 v12 v32 wr => ∃ i : Nat, i ≤ ks.length ∧ v32 = .int .i64 i ∧ Hid (OwnS wr w3.heap.size v7 (WL ++ (ks.take i).map fun x => quoB (textN l x))) ∧ Hid (OwnI wr w5.heap.size (.slice A9 ks.length c9) ks) ∧ Hid (Apart (.slice A9 ks.length c9) v7) ∧ Hid (Below w3.heap.size w3 wr)) (fun _ _ _ _ v32 _ => ks.length - (intOf v32).toNat)
  case atStart => exact ⟨0, Nat.zero_le _, rfl, (by rw [List.take_zero, List.map_nil, List.append_nil]; exact HO6.out), HI6.out, HAP6.out, HB36.out⟩
  case round =>
   clear HO6 HI6 HAP6 HB36 HB6
   obtain ⟨i, hi, rfl, HO, HI, HAP, HB37⟩ := hrel
   obtain ⟨w7, hw7⟩ : ∃ w7, wr = w7 := ⟨_, rfl⟩
   rw [hw7] at HO HI HB37 ⊢
   clear hw7
   have HB07 : Hid (Below W0.heap.size W0 w7) := HB3.out.trans (HB37.out.mono HB3.out.size)
   have hz37 := HB37.out.size
   by_cases hlt : i < ks.length
   ·have hiz : (i : Int) < (ks.length : Int) := by omega
    have hiA : (0 : Int) ≤ (i : Int) := by omega
    obtain ⟨A10, c10, hv10, _, _, h9r⟩ := OwnI.form HI.out
    injection hv10 with hA9 _ hc9
    rw [← hA9] at h9r
    obtain ⟨bd, x, hA, hbb, hidx, hc⟩ := h9r.at_ hlt
    subst hA
    have HLT := Lib.hid hlt
    have HNX : Hid ((ks.take (i + 1)).map (fun x => quoB (textN l x)) = (ks.take i).map (fun x => quoB (textN l x)) ++ [quoB (textN l x)]) := map_next _ hidx
    have hpt : (WL ++ (ks.take i).map fun x => quoB (textN l x)).length ≤ 120 := by
     rw [List.length_append, List.length_map, List.length_take]
     omega
    obtain ⟨ll, hll⟩ : ∃ ll, (ks.take i).map (fun x => quoB (textN l x)) = ll := ⟨_, rfl⟩
    rw [hll] at HNX hpt HO
    have HGX := Lib.hid fun (W : World) (hW : Below w7.heap.size w7 W) => HG.out W (HBW.out _ (HB07.out.trans (hW.mono HB07.out.size))) x
    unfold getV noteV at HGX
    have hsx := HTX.out x
    have htx : textN l x = ((getN l x).getD nt0).text := rfl
    rw [htx] at HNX
    obtain ⟨y, hy⟩ : ∃ y, (getN l x).getD nt0 = y := ⟨_, rfl⟩
    obtain ⟨bs, hbs⟩ : ∃ bs, (getN l x).isSome = bs := ⟨_, rfl⟩
    rw [hy] at HGX hsx HNX
    rw [hbs] at HGX
    have HCX : Hid (∀ W, Below w7.heap.size w7 W → W.cell? (bd.add i) = some (.int .i64 x)) := fun W hW => (hW.cell (by rw [block_of_add]; exact hbb)).trans hc
    have HDX : Hid (∀ W, Below w7.heap.size w7 W → W.rangeAt w.heap.size 0 [.int .i64 rid, .string name, .int .i64 len, .int .i64 day, .slice sa sn sc, .slice ta tn tc, .slice na nn nc]) := fun W hW => HK.out W (HB07.out.trans (hW.mono HB07.out.size))
    have HML2 : Hid (WL ++ (ks.take (i + 1)).map (fun x => quoB (textN l x)) = (WL ++ ll) ++ [quoB y.text]) := by
     show _ = _
     rw [HNX.out, List.append_assoc]
    obtain ⟨ML, hML⟩ : ∃ z, WL ++ ll = z := ⟨_, rfl⟩
    rw [hML] at HO hpt HML2
    clear hidx hll HNX h9r hy hbs hA9 hc9 hML htx hc hbb
    go_upto_region 10 with fail
    refine wp_region_toldA 9 10 7 [.int .i64 y.nid, .int .i64 y.tier, .int .i64 y.parent, .int .i64 y.at1, .int .i64 y.at2, .int .i64 y.rank, .string y.text] [ToldA.is (.agg #[.int .i64 rid, .string name, .int .i64 len, .int .i64 day, .slice sa sn sc, .slice ta tn tc, .slice na nn nc]), ToldA.is (.slice (some bd) ks.length c9), ToldA.is (.int .i64 (i : Int)), ToldA.is (.pointer (some (bd.add i))), ToldA.is (.int .i64 x), ToldA.is (.tuple #[.agg #[.int .i64 y.nid, .int .i64 y.tier, .int .i64 y.parent, .int .i64 y.at1, .int .i64 y.at2, .int .i64 y.rank, .string y.text], .bool bs]), ToldA.is (.tuple #[.agg #[.int .i64 y.nid, .int .i64 y.tier, .int .i64 y.parent, .int .i64 y.at1, .int .i64 y.at2, .int .i64 y.rank, .string y.text], .bool bs]), ToldA.is (.agg #[.int .i64 y.nid, .int .i64 y.tier, .int .i64 y.parent, .int .i64 y.at1, .int .i64 y.at2, .int .i64 y.rank, .string y.text]), ToldA.is (.bool bs), ToldA.new, ToldA.put, ToldA.is (.bool bs)] (by omega) (by kernel_rfl) (by kernel_rfl) rfl ?_ ?_
    ·refine And.intro (fun w1 vals hB hd a1 ha1 K hK => ?_) ?_
     ·clear hd
      subst ha1
      simp only [putAll, Act.put, pS] at hK ⊢
      refine gwp_none rfl ?_
      refine wp_load_mid 38 (.tmp 3) rfl w.heap.size 0 rfl [.int .i64 rid, .string name, .int .i64 len, .int .i64 day, .slice sa sn sc, .slice ta tn tc, .slice na nn nc] _ (HDX.out w1 hB) Tryz.underlying38 rfl (by kernel_rfl) ?_
      simp only [Act.put, pS]
      exact hK _ _ rfl (Below.refl _ _)
     refine And.intro (fun w1 vals hB hd a1 ha1 K hK => ?_) ?_
     ·clear hd
      subst ha1
      simp only [putAll, Act.put, pS] at hK ⊢
      refine gwp_none rfl ?_
      go_simp
      exact hK _ _ rfl (Below.refl _ _)
     refine And.intro (fun w1 vals hB hd a1 ha1 K hK => ?_) ?_
     ·clear hd
      subst ha1
      simp only [putAll, Act.put, pS] at hK ⊢
      refine gwp_none rfl ?_
      go_simp
      exact hK _ _ rfl (Below.refl _ _)
     refine And.intro (fun w1 vals hB hd a1 ha1 K hK => ?_) ?_
     ·have e1 : vals 1 = .slice (some bd) ks.length c9 := toldA_at (hd 1 rfl) rfl
      have e2 : vals 2 = .int .i64 (i : Int) := toldA_at (hd 2 rfl) rfl
      clear hd
      subst ha1
      simp only [putAll, Act.put, pS] at hK ⊢
      simp only [e1, e2] at hK ⊢
      clear e1 e2
      refine gwp_none rfl ?_
      go_simp
      exact hK _ _ rfl (Below.refl _ _)
     refine And.intro (fun w1 vals hB hd a1 ha1 K hK => ?_) ?_
     ·have e3 : vals 3 = .pointer (some (bd.add i)) := toldA_at (hd 3 rfl) rfl
      clear hd
      subst ha1
      simp only [putAll, Act.put, pS] at hK ⊢
      simp only [e3] at hK ⊢
      clear e3
      refine gwp_none rfl ?_
      have hc := HCX.out w1 hB
      go_simp
      exact hK _ _ rfl (Below.refl _ _)
     refine And.intro (fun w1 vals hB hd a1 ha1 K hK => ?_) ?_
     ·have e0 : vals 0 = .agg #[.int .i64 rid, .string name, .int .i64 len, .int .i64 day, .slice sa sn sc, .slice ta tn tc, .slice na nn nc] := toldA_at (hd 0 rfl) rfl
      have e4 : vals 4 = .int .i64 x := toldA_at (hd 4 rfl) rfl
      clear hd
      subst ha1
      simp only [putAll, Act.put, pS] at hK ⊢
      simp only [e0, e4] at hK ⊢
      clear e0 e4
      refine gwp_none rfl ?_
      go_simp
      refine (HGX.out w1 hB).mono ?_
      rintro e w3 ⟨rfl, hb⟩
      exact hK _ _ rfl hb
     refine And.intro (fun w1 vals hB hd a1 ha1 K hK => ?_) ?_
     ·have e5 : vals 5 = .tuple #[.agg #[.int .i64 y.nid, .int .i64 y.tier, .int .i64 y.parent, .int .i64 y.at1, .int .i64 y.at2, .int .i64 y.rank, .string y.text], .bool bs] := toldA_at (hd 5 rfl) rfl
      clear hd
      subst ha1
      simp only [putAll, Act.put, pS] at hK ⊢
      simp only [e5] at hK ⊢
      clear e5
      refine gwp_none rfl ?_
      go_simp
      exact hK _ _ rfl (Below.refl _ _)
     refine And.intro (fun w1 vals hB hd a1 ha1 K hK => ?_) ?_
     ·have e6 : vals 6 = .tuple #[.agg #[.int .i64 y.nid, .int .i64 y.tier, .int .i64 y.parent, .int .i64 y.at1, .int .i64 y.at2, .int .i64 y.rank, .string y.text], .bool bs] := toldA_at (hd 6 rfl) rfl
      clear hd
      subst ha1
      simp only [putAll, Act.put, pS] at hK ⊢
      simp only [e6] at hK ⊢
      clear e6
      refine gwp_none rfl ?_
      go_simp
      exact hK _ _ rfl (Below.refl _ _)
     refine And.intro (fun w1 vals hB hd a1 ha1 K hK => ?_) ?_
     ·have e6 : vals 6 = .tuple #[.agg #[.int .i64 y.nid, .int .i64 y.tier, .int .i64 y.parent, .int .i64 y.at1, .int .i64 y.at2, .int .i64 y.rank, .string y.text], .bool bs] := toldA_at (hd 6 rfl) rfl
      clear hd
      subst ha1
      simp only [putAll, Act.put, pS] at hK ⊢
      simp only [e6] at hK ⊢
      clear e6
      refine gwp_none rfl ?_
      go_simp
      exact hK _ _ rfl (Below.refl _ _)
     refine And.intro (fun w1 vals hB hd a1 ha1 K hK => ?_) ?_
     ·clear hd
      subst ha1
      simp only [putAll, Act.put, pS] at hK ⊢
      refine gwp_none rfl ?_
      go_simp
      exact hK _ _ ⟨_, rfl, hB.size, by simp, there_new w1 _ _⟩ ((Below.refl _ _).alloc (Nat.le_refl _) _)
     refine And.intro (fun w1 vals hB hd a1 ha1 K hK => ?_) ?_
     ·have e7 : vals 7 = .agg #[.int .i64 y.nid, .int .i64 y.tier, .int .i64 y.parent, .int .i64 y.at1, .int .i64 y.at2, .int .i64 y.rank, .string y.text] := toldA_at (hd 7 rfl) rfl
      have p9 : NewAt 7 _ (vals 9) _ := toldA_at (t := ToldA.new) (hd 9 rfl) rfl
      clear hd
      refine gwp_none rfl ?_
      obtain ⟨bN, hvN, h0N, h1N, hth⟩ := p9
      have hev1 : a1.eval (.tmp 11) = .pointer (some ⟨bN, 0, none⟩) := by rw [ha1]; exact (eval_slot (i := 9) (by kernel_rfl) (by kernel_rfl) rfl).trans hvN
      have hev2 : a1.eval (.tmp 42) = .agg #[.int .i64 y.nid, .int .i64 y.tier, .int .i64 y.parent, .int .i64 y.at1, .int .i64 y.at2, .int .i64 y.rank, .string y.text] := by rw [ha1]; exact (eval_slot (i := 7) (by kernel_rfl) (by kernel_rfl) rfl).trans e7
      clear ha1
      obtain ⟨wS, hwS⟩ : ∃ wS, w1.setCells bN 0 (#[.int .i64 y.nid, .int .i64 y.tier, .int .i64 y.parent, .int .i64 y.at1, .int .i64 y.at2, .int .i64 y.rank, .string y.text] : Array Value).toList = wS := ⟨_, rfl⟩
      have hX : BelowX bN w1 wS := by rw [← hwS]; exact BelowX.set _ _ _
      have hR : wS.rangeAt bN 0 [.int .i64 y.nid, .int .i64 y.tier, .int .i64 y.parent, .int .i64 y.at1, .int .i64 y.at2, .int .i64 y.rank, .string y.text] := by rw [← hwS]; exact World.rangeAt_setCells_same w1 bN 0 [.int .i64 y.nid, .int .i64 y.tier, .int .i64 y.parent, .int .i64 y.at1, .int .i64 y.at2, .int .i64 y.rank, .string y.text] hth
      refine wp_store_mid 58 (.tmp 11) (.tmp 42) rfl bN 0 #[.int .i64 y.nid, .int .i64 y.tier, .int .i64 y.parent, .int .i64 y.at1, .int .i64 y.at2, .int .i64 y.rank, .string y.text] hev1 hev2 hth (by kernel_rfl) (by simp [Value.oneCell']) ?_
      rw [hwS]
      exact hK undef wS trivial ⟨by kernel_rfl, bN, hvN, h0N, h1N, hX, hR⟩
     refine And.intro (fun w1 vals hB hd a1 ha1 K hK => ?_) ?_
     ·have e8 : vals 8 = .bool bs := toldA_at (hd 8 rfl) rfl
      clear hd
      subst ha1
      simp only [putAll, Act.put, pS] at hK ⊢
      simp only [e8] at hK ⊢
      clear e8
      refine gwp_none rfl ?_
      go_simp
      exact hK _ _ rfl (Below.refl _ _)
     exact trivial
    ·intro w1 vals hB hd hfl
     have e11 : vals 11 = .bool bs := toldA_at (hd 11 (by decide)) rfl
     obtain ⟨bN, hvN, h0N, h1N, hrN⟩ := hfl (by decide)
     clear hfl
     clear hd
     simp only [putAll, Act.put, pS]
     simp only [e11, hvN]
     clear e11 hvN
     have HOO := Lib.hid (HO.out.on hB)
     have HIO := Lib.hid (HI.out.on hB)
     have HB8 : Hid (Below w3.heap.size w3 w1) := HB37.out.trans (hB.mono hz37)
     have c6 : w1.cell? ⟨bN, 6, none⟩ = some (.string y.text) := hrN 6 _ rfl
     obtain ⟨w8, hw8⟩ : ∃ w8, w1 = w8 := ⟨_, rfl⟩
     rw [hw8] at HOO HIO HB8 c6 ⊢
     have hz38 := HB8.out.size
     clear hB hrN h0N h1N HCX HDX HGX HO HI hw8
     have hs1 : (⟨#[34]⟩ : ByteArray).size + y.text.size ≤ 9223372036854775807 := by
      have : (⟨#[34]⟩ : ByteArray).size = 1 := rfl
      omega
     have hs2 : ((⟨#[34]⟩ : ByteArray) ++ y.text).size + (⟨#[34]⟩ : ByteArray).size ≤ 9223372036854775807 := by
      have : (⟨#[34]⟩ : ByteArray).size = 1 := rfl
      rw [ByteArray.size_append]
      omega
     go_wp2_with (at_builtin; refine wpList_app1 rfl (.tmp 44) (.tmp 49) 45 rfl w3.heap.size 9 16 (.string .empty) info_string rfl Tryz.underlying45 rfl HOO.out (by rfl) rfl (by omega) (by omega) (by omega) ?_; rintro v5 w9 hown5 hb5 hs5 hk5)
     obtain ⟨hI4, hA4⟩ := hk5 _ _ _ _ _ _ HIO.out HAP.out
     have HI4 := Lib.hid hI4
     have HA4 := Lib.hid hA4
     have HO4 : Hid (OwnS w9 w3.heap.size v5 (ML ++ [quoB y.text])) := own_s (n := 0) hown5
     have HB4 : Hid (Below w3.heap.size w3 w9) := HB8.out.trans hb5
     rw [← HML2.out] at HO4
     clear hown5 hb5 hk5 hI4 hA4
     go_wp2
     go_roundw
     case rel =>
      first
       | exact ⟨i + 1, HLT.out, by go_num, HO4, HI4, HA4, HB4⟩
       | ((repeat apply Exists.intro); refine ⟨?_, rfl⟩; exact ⟨i + 1, HLT.out, by go_num, HO4, HI4, HA4, HB4⟩)
     case measure => have := HLT.out; simp [intOf]; omega
   ·obtain rfl : i = ks.length := by omega
    have hiz : ¬ (ks.length : Int) < (ks.length : Int) := by omega
    rw [List.take_length] at HO
    go_wp2
    go_ret
    exact ⟨_, rfl, own_base HO.out (by have := HB.out.size; omega), HBW.out _ HB07.out⟩
end Go.Proofs.YthcabnfcgjnlnaaGreatDoor
