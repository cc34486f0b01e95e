/-
  The reference's Wrap, walked.
-/
import Derived.Test.YtacfeabdeaikhaaDoorGLawA
namespace Go.Proofs.YtacfeabdeaikhaaDoor
open Go.RowKit Ru Lay
attribute [local go_sem ↓] Go.wp_at_zero Go.wp_at_succ
set_option linter.unusedVariables false
set_option linter.unusedSimpArgs false

/-- The rows that have been collected: each a row of the call's own. -/
def PartI (W : World) (base : Nat) (v : Value) (P : List (List ByteArray)) : Prop :=
  ∃ us : List Value, W.ownsRow base 36 1 v P.length us ∧ us.length = P.length ∧ ∀ (j : Nat) (u : Value) (r : List ByteArray), us[j]? = some u → P[j]? = some r → OwnS W base u r ∧ Apart u v
theorem PartI.nil (W : World) (base : Nat) : PartI W base (.slice none 0 0) [] := ⟨[], World.ownsRow_nil _ _ _ _, rfl, fun j u r h => by simp at h⟩
theorem PartI.on {W W' : World} {base : Nat} {v : Value} {P : List (List ByteArray)} (h : PartI W base v P) (hb : Below W.heap.size W W') : PartI W' base v P := by
  obtain ⟨us, h1, h2, h3⟩ := h
  exact ⟨us, own_below h1 hb, h2, fun j u r hu hr => ⟨(h3 j u r hu hr).1.on hb, (h3 j u r hu hr).2⟩⟩
theorem PartI.rows {W : World} {base : Nat} {v : Value} {P : List (List ByteArray)} (h : PartI W base v P) : ∃ A c, v = .slice A P.length c ∧ RowsR W W.heap.size A P.length P := by
  obtain ⟨us, h1, h2, h3⟩ := h
  obtain ⟨A, c, rfl, _, _, hr⟩ := own_form h1
  refine ⟨A, c, rfl, us, hr, rfl, fun i l hl => ?_⟩
  have hlt := (List.getElem?_eq_some_iff.1 hl).1
  have hu : us[i]? = some (us[i]'(by omega)) := List.getElem?_eq_getElem (by omega)
  obtain ⟨A', c', e, h4, h5, hs⟩ := (h3 i _ l hu hl).1.form
  exact ⟨A', l.length, c', by rw [hu, e], hs, h4, h5⟩
/-- One row more. -/
theorem PartI.add {W W' : World} {base b2 : Nat} {v v' u : Value} {P : List (List ByteArray)} {us : List Value} {r : List ByteArray}
    (h1 : W'.ownsRow base 36 1 v' (P.length + 1) (us ++ [u])) (h2 : us.length = P.length) (h3 : ∀ (j : Nat) (u : Value) (r : List ByteArray), us[j]? = some u → P[j]? = some r → OwnS W base u r ∧ Apart u v)
    (hu : OwnS W b2 u r) (hb : base ≤ b2) (hv : ∀ b, v.ownBlock = some b → b < b2)
    (hk : ∀ (base2 e2 size2 : Nat) (u : Value) (m : Nat) (ys : List Value), W.ownsRow base2 e2 size2 u m ys → Apart u v → W'.ownsRow base2 e2 size2 u m ys ∧ Apart u v') : PartI W' base v' (P ++ [r]) := by
  refine ⟨us ++ [u], by rw [List.length_append]; exact h1, by rw [List.length_append, List.length_append, h2]; rfl, fun j t q ht hq => ?_⟩
  by_cases hlt : j < P.length
  · rw [List.getElem?_append_left (by omega)] at ht
    rw [List.getElem?_append_left hlt] at hq
    obtain ⟨h4, h5⟩ := h3 j t q ht hq
    exact hk _ _ _ _ _ _ h4 h5
  · rw [List.getElem?_append_right (by omega), h2] at ht
    rw [List.getElem?_append_right (by omega)] at hq
    have hj : j - P.length = 0 := by
      have := (List.getElem?_eq_some_iff.1 hq).1
      simp at this
      omega
    rw [hj] at ht hq
    simp at ht hq
    subst ht hq
    obtain ⟨h4, h5⟩ := hk _ _ _ _ _ _ (own_base hu hb) (fun b hb1 hb2 => by
      have := (World.ownsRow.lt hu b hb1).1
      have := hv b hb2
      omega)
    exact ⟨h4, h5⟩
theorem partR_len (L : List (List ByteArray)) (g : Nat × Nat) : (partR L g).length = L.length := by unfold partR; simp
theorem partR_sz {L : List (List ByteArray)} (h : SzL L) (g : Nat × Nat) (hg : g.2 ≤ 100000) : SzL (partR L g) := by
  refine ⟨by rw [partR_len]; exact h.1, fun r hr => ?_⟩
  obtain ⟨x, hx, rfl⟩ := List.mem_map.1 hr
  refine ⟨by simp; omega, fun s hs => ?_⟩
  obtain ⟨j, _, rfl⟩ := List.mem_map.1 hs
  exact (h.2 x hx).cellB _
def rowR (r : List ByteArray) (f q : Nat) : List ByteArray := (List.range q).map fun j => cellB r (f + j)
theorem rowR_succ (r : List ByteArray) (f q : Nat) : rowR r f (q + 1) = rowR r f q ++ [cellB r (f + q)] := by
  unfold rowR
  rw [List.range_succ, List.map_append]
  rfl
theorem rowR_len (r : List ByteArray) (f q : Nat) : (rowR r f q).length = q := by unfold rowR; simp
theorem partR_take {L : List (List ByteArray)} {k : Nat} {r : List ByteArray} (g : Nat × Nat) (h : L[k]? = some r) : (partR L g).take (k + 1) = (partR L g).take k ++ [rowR r g.1 (g.2 - g.1)] := by
  refine take_at2 ?_
  unfold partR
  rw [List.getElem?_map, h]
  rfl

theorem PartI.lt {W : World} {base : Nat} {v : Value} {P : List (List ByteArray)} (h : PartI W base v P) : ∀ b, v.ownBlock = some b → b < W.heap.size := by
  obtain ⟨us, h1, _⟩ := h
  exact fun b hb => (h1.lt b hb).2
set_option maxHeartbeats 8000000 in
set_option maxRecDepth 100000 in
theorem refWrap_any (A : Option Addr) (n c : Nat) (L : List (List ByteArray)) (WD : Int) (w : World) (hL : RowsR w w.heap.size A n L) (hz : SzL L) (hW : WD ≤ 9223372036854775807) :
    Calls Tryd.prog 28 #[.slice A n c, .int .i64 WD] w fun e w' => ∃ v, e = .returned v ∧ OwnS w' w.heap.size v (wrapL L WD) ∧ Below w.heap.size w w' := by
  rw [wrapL_ref]
  have HL := Lib.hid hL
  have HZ := Lib.hid hz
  have HLN := Lib.hid hL.len
  have hn : n ≤ 100000 := by have := hL.len; have := hz.1; omega
  have HCO := Lib.hid (refColumns_any A n c L w hL hz)
  have hnm := hz.nmax
  have HCM : Hid (∀ x ∈ cols L, x ≤ 9223372036854775807) := fun x hx => by
    obtain ⟨k, _, rfl⟩ := List.mem_map.1 hx
    have := hz.col k
    omega
  clear hL hz
  go_enter Tryd.func28, Tryd.ntmps28
  go_wp2_with fail
  refine HCO.out.mono ?_
  rintro e w1 ⟨v, rfl, hown, hb⟩
  obtain ⟨CA, cc, rfl, _, _, hir⟩ := hown.form
  have HB1 := Lib.hid hb
  have HGR := Lib.hid (refGroups_any CA (cols L).length cc (cols L) WD w1 hir (by rw [cols_len]; exact hnm) HCM.out hW)
  clear hir hb hown HCO
  go_wp2_with fail
  refine HGR.out.mono ?_
  rintro e w2 ⟨v, rfl, hown, hb⟩
  have hgl := groups_len (cols L) WD
  rw [cols_len] at hgl
  obtain ⟨GA, gc, rfl, hgr⟩ := hown.form
  obtain ⟨G, hG⟩ : ∃ G, groups (cols L) WD = G := ⟨_, rfl⟩
  have HG := Lib.hid hG
  rw [hG] at hgr hgl ⊢
  obtain ⟨ng, hng⟩ : ∃ ng, G.length = ng := ⟨_, rfl⟩
  have HNG := Lib.hid hng
  rw [hng] at hgr hgl ⊢
  have HR := Lib.hid hgr
  have HB2 : Hid (Below w.heap.size w w2) := HB1.out.trans (hb.mono HB1.out.size)
  have hng2 : ng ≤ 100000 := by omega
  clear hgr hb hown HGR hG hng
  go_wp2_with fail
  go_loopw [5, 7] (fun v5 v7 wr => ∃ i : Nat, i ≤ ng ∧ v7 = .int .i64 i ∧ Hid (OwnS wr w2.heap.size v5 (wrapG (fun g => alignL (partR L g)) G i)) ∧ Hid (Below w2.heap.size w2 wr)) (fun _ v7 _ => ng - (intOf v7).toNat)
  case atStart => exact ⟨0, Nat.zero_le _, rfl, OwnS.nil _ _, Below.refl _ _⟩
  case round =>
    obtain ⟨i, hi, rfl, HO, HBR⟩ := hrel
    obtain ⟨w0, hw0⟩ : ∃ w0, wr = w0 := ⟨_, rfl⟩
    rw [hw0] at HO HBR ⊢
    clear hw0
    by_cases hlt : i < ng
    · have hiz : (i : Int) < (ng : Int) := by omega
      have hiA : (0 : Int) ≤ (i : Int) := by omega
      obtain ⟨gd, p, rfl, hgb, hp, hc0, hc1⟩ := HR.out.at_ hlt
      obtain ⟨f, e⟩ := p
      have HG0 : Hid (∀ W, Below w2.heap.size w2 W → W.cell? (gd.add (i * 2)) = some (.int .i64 (f : Int))) := fun W hW => (hW.cell (by rw [block_of_add]; exact hgb)).trans hc0
      have HG1 : Hid (∀ W, Below w2.heap.size w2 W → W.cell? ⟨(gd.add (i * 2)).block, (gd.add (i * 2)).off + 1, none⟩ = some (.int .i64 (e : Int))) := fun W hW => (hW.cell (p := ⟨(gd.add (i * 2)).block, (gd.add (i * 2)).off + 1, none⟩) (by show (gd.add (i * 2)).block < _; rw [block_of_add]; exact hgb)).trans hc1
      have HP := Lib.hid hp
      obtain ⟨hfe, hel⟩ : f < e ∧ e ≤ 100000 := by
        have h1 := (groups_ok (cols L) WD).each i f e (by rw [HG.out]; exact hp)
        have h2 := h1.2.1
        rw [cols_len] at h2
        exact ⟨h1.1, by omega⟩
      have HI := Lib.hid hlt
      have hwl := wrapG_le (f := fun g => alignL (partR L g)) (G := G) (m := n) (fun g => by rw [alignL_len, partR_len, HLN.out]) i
      have hwl2 : i * (n + 1) ≤ 100000 * 100001 := Nat.mul_le_mul (by omega) (by omega)
      obtain ⟨OL, hOL⟩ : ∃ OL, wrapG (fun g => alignL (partR L g)) G i = OL := ⟨_, rfl⟩
      have hwl3 : OL.length ≤ 10000100000 := by rw [← hOL]; omega
      have hGi : G.getD i (0, 0) = (f, e) := getD_at HP.out
      have hsz0 := HBR.out.size
      rw [hOL] at HO
      clear hc0 hc1 hp hwl hwl2
      by_cases hi0 : 0 < i
      · have hi0z : (0 : Int) < (i : Int) := by omega
        have HWN : Hid (wrapG (fun g => alignL (partR L g)) G (i + 1) = (OL ++ [⟨#[]⟩]) ++ alignL (partR L (f, e))) := by
          show wrapG (fun g => alignL (partR L g)) G i ++ (if 0 < i then [(⟨#[]⟩ : ByteArray)] else []) ++ alignL (partR L (G.getD i (0, 0))) = _
          rw [if_pos hi0, hGi, hOL]
        clear hOL hGi
        go_wp2_with (at_builtin; refine wpList_app1 rfl (.tmp 24) (.tmp 25) 36 rfl w2.heap.size 9 16 (.string .empty) info_string rfl Tryd.underlying36 rfl HO.out rfl rfl (by omega) (by omega) hsz0 ?_; intro v3 w3 hown3 hb3 hs3 hk3)
        have HO3 := Lib.hid (own_s (n := 0) hown3)
        have HB3 : Hid (Below w2.heap.size w2 w3) := HBR.out.trans hb3
        have hol : (OL ++ [(⟨#[]⟩ : ByteArray)]).length ≤ 10000100001 := by rw [List.length_append, List.length_singleton]; omega
        clear hown3 hb3 hs3 hk3 HO
        go_wp2_with fail
        go_loopw [8, 9] (fun v8 v9 wi => ∃ k : Nat, k ≤ n ∧ v9 = .int .i64 k ∧ Hid (PartI wi w3.heap.size v8 ((partR L (f, e)).take k)) ∧ Hid (Below w3.heap.size w3 wi)) (fun _ v9 _ => n - (intOf v9).toNat)
        case atStart => exact ⟨0, Nat.zero_le _, rfl, (by rw [List.take_zero]; exact PartI.nil _ _), Below.refl _ _⟩
        case round =>
          obtain ⟨k, hk, rfl, HPA, HBI⟩ := hrel
          obtain ⟨wk, hwk⟩ : ∃ wk, wk = wr := ⟨_, rfl⟩
          rw [← hwk] at HPA HBI ⊢
          clear hwk
          have HBK : Hid (Below w2.heap.size w2 wk) := HB3.out.trans (HBI.out.mono HB3.out.size)
          by_cases hkl : k < n
          · have hkz : (k : Int) < (n : Int) := by omega
            have hkA : (0 : Int) ≤ (k : Int) := by omega
            obtain ⟨ad, r, RA, rn, rc, rfl, hadb, hr, hcr, hsr, hrc1, hrc2⟩ := HL.out.at_ hkl
            have HCR : Hid (∀ W, Below w2.heap.size w2 W → W.cell? (ad.add k) = some (.slice RA rn rc)) := fun W hW => ((HB2.out.trans (hW.mono HB2.out.size)).cell (by rw [block_of_add]; exact hadb)).trans hcr
            have hrn : rn ≤ 100000 := by have := hsr.len; have := (HZ.out.row hr).1; omega
            have HSR := Lib.hid hsr
            have HNX : Hid ((partR L (f, e)).take (k + 1) = (partR L (f, e)).take k ++ [rowR r f (e - f)]) := partR_take (f, e) hr
            have HSZ := Lib.hid (HZ.out.row hr)
            have hpl : ((partR L (f, e)).take k).length = k := by rw [List.length_take, partR_len, HLN.out]; omega
            have HPL := Lib.hid hpl
            have HKL := Lib.hid hkl
            have hg0 := HG0.out _ HBK.out
            clear hr hcr hsr hpl
            go_wp2_with fail
            have HPA0 := HPA
            go_loopw [10, 11] (fun v10 v11 wj => ∃ q : Nat, f + q ≤ e ∧ v11 = .int .i64 ((f + q : Nat) : Int) ∧ Hid (OwnS wj wk.heap.size v10 (rowR r f q)) ∧ Hid (Below wk.heap.size wk wj)) (fun _ v11 _ => e - (intOf v11).toNat)
            case atStart => exact ⟨0, by omega, by rw [Nat.add_zero], OwnS.nil _ _, Below.refl _ _⟩
            case round =>
              obtain ⟨q, hq, rfl, HRW, HBJ⟩ := hrel
              obtain ⟨wj, hwj⟩ : ∃ wj, wj = wr := ⟨_, rfl⟩
              rw [← hwj] at HRW HBJ ⊢
              clear hwj
              have HBJ2 : Hid (Below w2.heap.size w2 wj) := HBK.out.trans (HBJ.out.mono HBK.out.size)
              have hg1 := HG1.out _ HBJ2.out
              have hcr1 := HCR.out _ HBJ2.out
              obtain ⟨j, hj⟩ : ∃ j, f + q = j := ⟨_, rfl⟩
              have HJ := Lib.hid hj
              rw [hj] at hq ⊢
              clear hj
              by_cases hjl : j < e
              · have hjz : (j : Int) < (e : Int) := by omega
                have HCE := Lib.hid (cell_any RA rn rc r j wj (SR.on HSR.out (HB2.out.trans (HBJ2.out.mono HB2.out.size))) (by omega) (by omega))
                have hrl := rowR_len r f q
                have HRN : Hid (rowR r f (q + 1) = rowR r f q ++ [cellB r j]) := by show _ = _; rw [rowR_succ, HJ.out]
                obtain ⟨R, hR⟩ : ∃ R, rowR r f q = R := ⟨_, rfl⟩
                have hRl : R.length ≤ e := by rw [← hR, hrl]; have := HJ.out; omega
                rw [hR] at HRW HRN
                have hszj := HBJ.out.size
                clear hrl hR
                go_wp2_with fail
                refine HCE.out.mono ?_
                rintro e5 w5 ⟨rfl, rfl⟩
                go_wp2_with (at_builtin; refine wpList_app1 rfl (.tmp 47) (.tmp 54) 36 rfl wk.heap.size 9 16 (.string .empty) info_string rfl Tryd.underlying36 rfl HRW.out rfl rfl (by omega) (by omega) hszj ?_; intro v6 w6 hown6 hb6 hs6 hk6)
                have hrw6 := own_s (n := 0) hown6
                rw [← HRN.out] at hrw6
                have HRW6 := Lib.hid hrw6
                have HB6 : Hid (Below wk.heap.size wk w6) := HBJ.out.trans hb6
                clear hown6 hb6 hs6 hk6 hrw6 hg1 hcr1
                go_wp2
                go_roundw
                case rel => exact ⟨q + 1, by have := HJ.out; omega, by rw [show f + (q + 1) = j + 1 by have := HJ.out; omega]; go_num, HRW6, HB6⟩
                case measure => simp [intOf]; omega
              · obtain rfl : j = e := by omega
                have hjz : ¬ (j : Int) < (j : Int) := by omega
                have h0 := HRW.out
                rw [show q = j - f by have := HJ.out; omega] at h0
                obtain ⟨us, hx1, hx2, hx3⟩ := HPA0.out.on HBJ.out
                obtain ⟨VA, vc, hvf, hv1, hv2, _⟩ := h0.form
                subst hvf
                have HRW5 := Lib.hid h0
                rw [HPL.out] at hx1
                have HX1 := Lib.hid hx1
                have HX2 := Lib.hid hx2
                have HX3 := Lib.hid hx3
                have hap : ∀ b, Value.ownBlock _ = some b → b < wk.heap.size := fun b hb => (HPA0.out.lt b hb)
                have HAP := Lib.hid hap
                have hszj : w3.heap.size ≤ wj.heap.size := Nat.le_trans HBI.out.size HBJ.out.size
                clear hx1 hx2 hx3 h0 hap hcr1
                go_wp2_with (at_builtin; refine wpList_app1 rfl (.tmp 56) (.tmp 58) 26 rfl w3.heap.size 36 24 (.slice none 0 0) info_strings rfl Tryd.underlying26 rfl HX1.out rfl rfl (by omega) (by omega) hszj ?_; intro v7 w7 hown7 hb7 hs7 hk7)
                rw [← HPL.out] at hown7
                have hpa7 := PartI.add hown7 HX2.out HX3.out HRW5.out HBI.out.size HAP.out hk7
                rw [← HNX.out] at hpa7
                have HPA7 := Lib.hid hpa7
                have HB7 : Hid (Below w3.heap.size w3 w7) := (HBI.out.trans (HBJ.out.mono HBI.out.size)).trans hb7
                have hk1 : k + 1 ≤ n := HKL.out
                clear hown7 hb7 hs7 hk7 hpa7 hg1
                go_wp2
                go_roundw
                case rel => exact ⟨k + 1, hk1, by go_num, HPA7, HB7⟩
                case measure => have := HKL.out; simp [intOf]; omega
          · obtain rfl : n = k := by omega
            have hkz : ¬ (n : Int) < (n : Int) := by omega
            have h0 := HPA.out
            rw [List.take_of_length_le (by rw [partR_len, HLN.out]; exact Nat.le_refl _)] at h0
            obtain ⟨PA, pc, hpv, hrows⟩ := h0.rows
            rw [partR_len, HLN.out] at hrows hpv
            subst hpv
            have HAL := Lib.hid (refAlign_any PA n pc (partR L (f, e)) wk hrows (partR_sz HZ.out (f, e) (by show e ≤ _; omega)))
            have HO7 := Lib.hid (HO3.out.on HBI.out)
            clear h0 hrows
            go_wp2_with fail
            refine HAL.out.mono ?_
            rintro e8 w8 ⟨v8, rfl, hown8, hb8⟩
            obtain ⟨A8, c8, rfl, h81, h82, hr8⟩ := hown8.form
            rw [alignL_len, partR_len, HLN.out] at hr8 ⊢
            have HR8 := Lib.hid hr8
            have HO8 := Lib.hid (HO7.out.on hb8)
            have HB8 : Hid (Below w2.heap.size w2 w8) := HBK.out.trans (hb8.mono HBK.out.size)
            have hsz8 := HB8.out.size
            clear hown8 hb8 hr8 h81 h82
            go_wp2_with (at_builtin; refine wpList_app rfl (.tmp 60) (.tmp 62) 36 rfl w2.heap.size 9 16 (.string .empty) info_string rfl Tryd.underlying36 rfl HO8.out rfl HR8.out (by simp [Value.oneCell']) (by omega) (by omega) hsz8 ?_; intro v9 w9 hown hg hat)
            have HO9 : Hid (OwnS w9 w2.heap.size v9 (wrapG (fun g => alignL (partR L g)) G (i + 1))) := by
              show World.ownsRow _ _ _ _ _ _ _
              rw [HWN.out, List.length_append, alignL_len, partR_len, HLN.out, List.map_append]
              exact hown
            have HB9 : Hid (Below w2.heap.size w2 w9) := HB8.out.grown hg hsz8 (fun k hk => (HO8.out.lt k hk).1)
            clear hown hg hat
            have hi1 : i + 1 ≤ ng := HI.out
            go_wp2
            go_roundw
            case rel => exact ⟨i + 1, hi1, by go_num, HO9, HB9⟩
            case measure => have := HI.out; simp [intOf]; omega
      · have hi0z : ¬ (0 : Int) < (i : Int) := by omega
        have HI0 : Hid (i = 0) := by show _ = _; omega
        have HWN : Hid (wrapG (fun g => alignL (partR L g)) G (i + 1) = OL ++ alignL (partR L (f, e))) := by
          show wrapG (fun g => alignL (partR L g)) G i ++ (if 0 < i then [(⟨#[]⟩ : ByteArray)] else []) ++ alignL (partR L (G.getD i (0, 0))) = _
          rw [if_neg hi0, hGi, hOL, List.append_nil]
        have HO3 := HO
        have HB3 := HBR
        have hol : OL.length ≤ 10000100001 := by omega
        clear hOL hGi HO hi0
        go_wp2_with fail
        go_loopw [8, 9] (fun v8 v9 wi => ∃ k : Nat, k ≤ n ∧ v9 = .int .i64 k ∧ Hid (PartI wi w0.heap.size v8 ((partR L (f, e)).take k)) ∧ Hid (Below w0.heap.size w0 wi)) (fun _ v9 _ => n - (intOf v9).toNat)
        case atStart => exact ⟨0, Nat.zero_le _, rfl, (by rw [List.take_zero]; exact PartI.nil _ _), Below.refl _ _⟩
        case round =>
          obtain ⟨k, hk, rfl, HPA, HBI⟩ := hrel
          obtain ⟨wk, hwk⟩ : ∃ wk, wk = wr := ⟨_, rfl⟩
          rw [← hwk] at HPA HBI ⊢
          clear hwk
          have HBK : Hid (Below w2.heap.size w2 wk) := HB3.out.trans (HBI.out.mono HB3.out.size)
          by_cases hkl : k < n
          · have hkz : (k : Int) < (n : Int) := by omega
            have hkA : (0 : Int) ≤ (k : Int) := by omega
            obtain ⟨ad, r, RA, rn, rc, rfl, hadb, hr, hcr, hsr, hrc1, hrc2⟩ := HL.out.at_ hkl
            have HCR : Hid (∀ W, Below w2.heap.size w2 W → W.cell? (ad.add k) = some (.slice RA rn rc)) := fun W hW => ((HB2.out.trans (hW.mono HB2.out.size)).cell (by rw [block_of_add]; exact hadb)).trans hcr
            have hrn : rn ≤ 100000 := by have := hsr.len; have := (HZ.out.row hr).1; omega
            have HSR := Lib.hid hsr
            have HNX : Hid ((partR L (f, e)).take (k + 1) = (partR L (f, e)).take k ++ [rowR r f (e - f)]) := partR_take (f, e) hr
            have HSZ := Lib.hid (HZ.out.row hr)
            have hpl : ((partR L (f, e)).take k).length = k := by rw [List.length_take, partR_len, HLN.out]; omega
            have HPL := Lib.hid hpl
            have HKL := Lib.hid hkl
            have hg0 := HG0.out _ HBK.out
            clear hr hcr hsr hpl
            go_wp2_with fail
            have HPA0 := HPA
            go_loopw [10, 11] (fun v10 v11 wj => ∃ q : Nat, f + q ≤ e ∧ v11 = .int .i64 ((f + q : Nat) : Int) ∧ Hid (OwnS wj wk.heap.size v10 (rowR r f q)) ∧ Hid (Below wk.heap.size wk wj)) (fun _ v11 _ => e - (intOf v11).toNat)
            case atStart => exact ⟨0, by omega, by rw [Nat.add_zero], OwnS.nil _ _, Below.refl _ _⟩
            case round =>
              obtain ⟨q, hq, rfl, HRW, HBJ⟩ := hrel
              obtain ⟨wj, hwj⟩ : ∃ wj, wj = wr := ⟨_, rfl⟩
              rw [← hwj] at HRW HBJ ⊢
              clear hwj
              have HBJ2 : Hid (Below w2.heap.size w2 wj) := HBK.out.trans (HBJ.out.mono HBK.out.size)
              have hg1 := HG1.out _ HBJ2.out
              have hcr1 := HCR.out _ HBJ2.out
              obtain ⟨j, hj⟩ : ∃ j, f + q = j := ⟨_, rfl⟩
              have HJ := Lib.hid hj
              rw [hj] at hq ⊢
              clear hj
              by_cases hjl : j < e
              · have hjz : (j : Int) < (e : Int) := by omega
                have HCE := Lib.hid (cell_any RA rn rc r j wj (SR.on HSR.out (HB2.out.trans (HBJ2.out.mono HB2.out.size))) (by omega) (by omega))
                have hrl := rowR_len r f q
                have HRN : Hid (rowR r f (q + 1) = rowR r f q ++ [cellB r j]) := by show _ = _; rw [rowR_succ, HJ.out]
                obtain ⟨R, hR⟩ : ∃ R, rowR r f q = R := ⟨_, rfl⟩
                have hRl : R.length ≤ e := by rw [← hR, hrl]; have := HJ.out; omega
                rw [hR] at HRW HRN
                have hszj := HBJ.out.size
                clear hrl hR
                go_wp2_with fail
                refine HCE.out.mono ?_
                rintro e5 w5 ⟨rfl, rfl⟩
                go_wp2_with (at_builtin; refine wpList_app1 rfl (.tmp 47) (.tmp 54) 36 rfl wk.heap.size 9 16 (.string .empty) info_string rfl Tryd.underlying36 rfl HRW.out rfl rfl (by omega) (by omega) hszj ?_; intro v6 w6 hown6 hb6 hs6 hk6)
                have hrw6 := own_s (n := 0) hown6
                rw [← HRN.out] at hrw6
                have HRW6 := Lib.hid hrw6
                have HB6 : Hid (Below wk.heap.size wk w6) := HBJ.out.trans hb6
                clear hown6 hb6 hs6 hk6 hrw6 hg1 hcr1
                go_wp2
                go_roundw
                case rel => exact ⟨q + 1, by have := HJ.out; omega, by rw [show f + (q + 1) = j + 1 by have := HJ.out; omega]; go_num, HRW6, HB6⟩
                case measure => simp [intOf]; omega
              · obtain rfl : j = e := by omega
                have hjz : ¬ (j : Int) < (j : Int) := by omega
                have h0 := HRW.out
                rw [show q = j - f by have := HJ.out; omega] at h0
                obtain ⟨us, hx1, hx2, hx3⟩ := HPA0.out.on HBJ.out
                obtain ⟨VA, vc, hvf, hv1, hv2, _⟩ := h0.form
                subst hvf
                have HRW5 := Lib.hid h0
                rw [HPL.out] at hx1
                have HX1 := Lib.hid hx1
                have HX2 := Lib.hid hx2
                have HX3 := Lib.hid hx3
                have hap : ∀ b, Value.ownBlock _ = some b → b < wk.heap.size := fun b hb => (HPA0.out.lt b hb)
                have HAP := Lib.hid hap
                have hszj : w0.heap.size ≤ wj.heap.size := Nat.le_trans HBI.out.size HBJ.out.size
                clear hx1 hx2 hx3 h0 hap hcr1
                go_wp2_with (at_builtin; refine wpList_app1 rfl (.tmp 56) (.tmp 58) 26 rfl w0.heap.size 36 24 (.slice none 0 0) info_strings rfl Tryd.underlying26 rfl HX1.out rfl rfl (by omega) (by omega) hszj ?_; intro v7 w7 hown7 hb7 hs7 hk7)
                rw [← HPL.out] at hown7
                have hpa7 := PartI.add hown7 HX2.out HX3.out HRW5.out HBI.out.size HAP.out hk7
                rw [← HNX.out] at hpa7
                have HPA7 := Lib.hid hpa7
                have HB7 : Hid (Below w0.heap.size w0 w7) := (HBI.out.trans (HBJ.out.mono HBI.out.size)).trans hb7
                have hk1 : k + 1 ≤ n := HKL.out
                clear hown7 hb7 hs7 hk7 hpa7 hg1
                go_wp2
                go_roundw
                case rel => exact ⟨k + 1, hk1, by go_num, HPA7, HB7⟩
                case measure => have := HKL.out; simp [intOf]; omega
          · obtain rfl : n = k := by omega
            have hkz : ¬ (n : Int) < (n : Int) := by omega
            have h0 := HPA.out
            rw [List.take_of_length_le (by rw [partR_len, HLN.out]; exact Nat.le_refl _)] at h0
            obtain ⟨PA, pc, hpv, hrows⟩ := h0.rows
            rw [partR_len, HLN.out] at hrows hpv
            subst hpv
            have HAL := Lib.hid (refAlign_any PA n pc (partR L (f, e)) wk hrows (partR_sz HZ.out (f, e) (by show e ≤ _; omega)))
            have HO7 := Lib.hid (HO3.out.on HBI.out)
            clear h0 hrows
            go_wp2_with fail
            refine HAL.out.mono ?_
            rintro e8 w8 ⟨v8, rfl, hown8, hb8⟩
            obtain ⟨A8, c8, rfl, h81, h82, hr8⟩ := hown8.form
            rw [alignL_len, partR_len, HLN.out] at hr8 ⊢
            have HR8 := Lib.hid hr8
            have HO8 := Lib.hid (HO7.out.on hb8)
            have HB8 : Hid (Below w2.heap.size w2 w8) := HBK.out.trans (hb8.mono HBK.out.size)
            have hsz8 := HB8.out.size
            clear hown8 hb8 hr8 h81 h82
            go_wp2_with (at_builtin; refine wpList_app rfl (.tmp 60) (.tmp 62) 36 rfl w2.heap.size 9 16 (.string .empty) info_string rfl Tryd.underlying36 rfl HO8.out rfl HR8.out (by simp [Value.oneCell']) (by omega) (by omega) hsz8 ?_; intro v9 w9 hown hg hat)
            have HO9 : Hid (OwnS w9 w2.heap.size v9 (wrapG (fun g => alignL (partR L g)) G (i + 1))) := by
              show World.ownsRow _ _ _ _ _ _ _
              rw [HWN.out, List.length_append, alignL_len, partR_len, HLN.out, List.map_append]
              exact hown
            have HB9 : Hid (Below w2.heap.size w2 w9) := HB8.out.grown hg hsz8 (fun k hk => (HO8.out.lt k hk).1)
            clear hown hg hat
            have hi1 : i + 1 ≤ ng := HI.out
            go_wp2
            go_roundw
            case rel => exact ⟨i + 1, hi1, by go_num, HO9, HB9⟩
            case measure => have := HI.out; simp [intOf]; omega
    · obtain rfl : ng = i := by omega
      have hiz : ¬ (ng : Int) < (ng : Int) := by omega
      have h0 := HO.out
      rw [show wrapG (fun g => alignL (partR L g)) G ng = wrapG (fun g => alignL (partR L g)) (groups (cols L) WD) (groups (cols L) WD).length by rw [HG.out, HNG.out]] at h0
      have HO5 := Lib.hid h0
      clear h0
      go_wp2
      go_ret
      exact ⟨_, rfl, own_base HO5.out HB2.out.size, HB2.out.trans (HBR.out.mono HB2.out.size)⟩
end Go.Proofs.YtacfeabdeaikhaaDoor
