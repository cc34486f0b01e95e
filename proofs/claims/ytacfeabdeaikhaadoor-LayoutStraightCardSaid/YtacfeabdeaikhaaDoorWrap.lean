/-
  Wrap, walked.
-/
import Derived.Test.YtacfeabdeaikhaaDoorAlign
import Derived.Test.YtacfeabdeaikhaaDoorGGrps
namespace Go.Proofs.YtacfeabdeaikhaaDoor
open Go.RowKit Ru Lay
attribute [local go_sem ↓] Go.wp_at_zero Go.wp_at_succ
set_option linter.unusedVariables false
set_option linter.unusedSimpArgs false

theorem info_strings : (Tryd.prog.info? 36).map (fun i => (i.zero, i.size, i.bytes)) = some (some (.slice none 0 0), 1, 24) := by kernel_rfl
/-- The rows that have been collected: slices of old memory. -/
def PartO (W w : World) (v : Value) (base : Nat) (P : List (List ByteArray)) : Prop :=
  ∃ xs : List Value, W.ownsRow base 36 1 v P.length xs ∧ ∀ (i : Nat) (l : List ByteArray), P[i]? = some l → ∃ A' n' c', xs[i]? = some (Value.slice A' n' c') ∧ SR w w.heap.size A' n' l ∧ n' ≤ c' ∧ c' ≤ 9223372036854775807
theorem PartO.nil (W w : World) (base : Nat) : PartO W w (.slice none 0 0) base [] := ⟨[], World.ownsRow_nil _ _ _ _, fun i l h => by simp at h⟩
theorem PartO.on {W W' w : World} {v : Value} {base : Nat} {P : List (List ByteArray)} (h : PartO W w v base P) (hb : Below W.heap.size W W') : PartO W' w v base P := by
  obtain ⟨xs, h1, h2⟩ := h
  exact ⟨xs, own_below h1 hb, h2⟩
theorem PartO.rows {W w : World} {v : Value} {base : Nat} {P : List (List ByteArray)} (h : PartO W w v base P) (hb : Below w.heap.size w W) : ∃ A c, v = .slice A P.length c ∧ RowsR W W.heap.size A P.length P := by
  obtain ⟨xs, h1, h2⟩ := h
  obtain ⟨A, c, rfl, _, _, hr⟩ := own_form h1
  refine ⟨A, c, rfl, xs, hr, rfl, fun i l hl => ?_⟩
  obtain ⟨A', n', c', e, hs, h3, h4⟩ := h2 i l hl
  exact ⟨A', n', c', e, SR.on hs hb, h3, h4⟩
theorem PartO.add {W' w : World} {v' : Value} {base : Nat} {P : List (List ByteArray)} {xs : List Value} {A : Option Addr} {n c : Nat} {r : List ByteArray}
    (h1 : W'.ownsRow base 36 1 v' (P.length + 1) (xs ++ [.slice A n c])) (hl : xs.length = P.length)
    (h2 : ∀ (i : Nat) (l : List ByteArray), P[i]? = some l → ∃ A' n' c', xs[i]? = some (Value.slice A' n' c') ∧ SR w w.heap.size A' n' l ∧ n' ≤ c' ∧ c' ≤ 9223372036854775807)
    (hr : SR w w.heap.size A n r) (hnc : n ≤ c) (hc : c ≤ 9223372036854775807) : PartO W' w v' base (P ++ [r]) := by
  refine ⟨xs ++ [.slice A n c], by rw [List.length_append]; exact h1, fun i l hi => ?_⟩
  by_cases hlt : i < P.length
  · rw [List.getElem?_append_left hlt] at hi
    obtain ⟨A', n', c', e, h3⟩ := h2 i l hi
    exact ⟨A', n', c', by rw [List.getElem?_append_left (by omega)]; exact e, h3⟩
  · rw [List.getElem?_append_right (by omega)] at hi
    have hi0 : i - P.length = 0 := by
      have := (List.getElem?_eq_some_iff.1 hi).1
      simp at this
      omega
    rw [hi0] at hi
    simp at hi
    subst hi
    exact ⟨A, n, c, by rw [List.getElem?_append_right (by omega), hl, hi0]; rfl, hr, hnc, hc⟩
theorem PartO.beside {W W' w : World} {u v v' : Value} {base : Nat} {P : List (List ByteArray)} (h : PartO W w u base P) (hap : Apart u v)
    (hk : ∀ (base2 e2 size2 : Nat) (u : Value) (m : Nat) (ys : List Value), W.ownsRow base2 e2 size2 u m ys → Apart u v → W'.ownsRow base2 e2 size2 u m ys ∧ Apart u v') : PartO W' w u base P := by
  obtain ⟨xs, h1, h2⟩ := h
  exact ⟨xs, (hk _ _ _ _ _ _ h1 hap).1, h2⟩
theorem PartO.apart {W W0 w : World} {u v : Value} {base base2 n : Nat} {e : TypeId} {xs : List Value} {P : List (List ByteArray)} (h : PartO W w u base P) (h2 : W0.ownsRow base2 e 1 v n xs) (hb : W0.heap.size ≤ base) : Apart u v := by
  obtain ⟨ys, h1, _⟩ := h
  intro b hu hv
  have h3 := (h1.lt b hu).1
  have h4 := (h2.lt b hv).2
  omega
theorem partP_len (L : List (List ByteArray)) (g : Nat × Nat) : (partP L g).length = L.length := by unfold partP; simp
theorem partP_sz {L : List (List ByteArray)} (h : SzL L) (g : Nat × Nat) : SzL (partP L g) := by
  refine ⟨by rw [partP_len]; exact h.1, fun r hr => ?_⟩
  obtain ⟨x, hx, rfl⟩ := List.mem_map.1 hr
  have hz := h.2 x hx
  exact ⟨by rw [List.length_drop, List.length_take]; have := hz.1; omega, fun s hs => hz.2 s (List.mem_of_mem_take (List.mem_of_mem_drop hs))⟩
theorem partP_take {L : List (List ByteArray)} {k : Nat} {r : List ByteArray} (g : Nat × Nat) (h : L[k]? = some r) : (partP L g).take (k + 1) = (partP L g).take k ++ [(r.take (min g.2 r.length)).drop (min g.1 r.length)] := by
  refine take_at2 ?_
  unfold partP
  rw [List.getElem?_map, h]
  rfl
theorem wrapG_le {f : Nat × Nat → List ByteArray} {G : List (Nat × Nat)} {m : Nat} (hf : ∀ g, (f g).length = m) : ∀ i, (wrapG f G i).length ≤ i * (m + 1)
  | 0 => by simp [wrapG]
  | i + 1 => by
    have ih := wrapG_le (G := G) hf i
    show (wrapG f G i ++ (if 0 < i then [(⟨#[]⟩ : ByteArray)] else []) ++ f _).length ≤ _
    rw [List.length_append, List.length_append, hf]
    have h3 : (if 0 < i then [(⟨#[]⟩ : ByteArray)] else []).length ≤ 1 := by split <;> simp
    rw [Nat.add_mul]
    omega
theorem SR.part {w : World} {B n a b : Nat} {A : Option Addr} {r : List ByteArray} (h : SR w B A n r) (ha : a ≤ b) (hb : b ≤ n) : SR w B (if b = a then A else Option.map (fun x => x.add a) A) (b - a) ((r.take b).drop a) := by
  have h1 : Reads w B 1 A b ((r.map Value.string).take b) := Reads.take h hb
  have h2 := Reads.cut (cap := b) h1 ha (Nat.le_refl _)
  rw [← List.map_take, ← List.map_drop] at h2
  exact h2
set_option maxHeartbeats 4000000 in
set_option maxRecDepth 100000 in
theorem wrap_any (A : Option Addr) (n c : Nat) (L : List (List ByteArray)) (WD : Int) (w : World) (hL : RowsR w w.heap.size A n L) (hz : SzL L) (hW : WD ≤ 9223372036854775807) (hT : Tabs w) :
    Calls Tryd.prog 27 #[.slice A n c, .int .i64 WD] w fun e w' => ∃ v, e = .returned v ∧ OwnS w' w.heap.size v (wrapL L WD) ∧ Below w.heap.size w w' := by
  have HT := Lib.hid hT
  have HL := Lib.hid hL
  have HZ := Lib.hid hz
  have HLN := Lib.hid hL.len
  have hn : n ≤ 100000 := by have := hL.len; have := hz.1; omega
  have HCO := Lib.hid (columns_any A n c L w hL hz hT)
  have hnm := hz.nmax
  have HCM : Hid (∀ x ∈ cols L, x ≤ 9223372036854775807) := fun x hx => by
    obtain ⟨k, _, rfl⟩ := List.mem_map.1 hx
    have := hz.col k
    omega
  clear hT hL hz
  go_enter Tryd.func27, Tryd.ntmps27
  go_wp2_with fail
  refine HCO.out.mono ?_
  rintro e w1 ⟨v, rfl, hown, hb⟩
  obtain ⟨CA, cc, rfl, _, _, hir⟩ := hown.form
  have HB1 := Lib.hid hb
  have HGR := Lib.hid (groups_any CA (cols L).length cc (cols L) WD w1 hir (by rw [cols_len]; exact hnm) HCM.out hW)
  clear hir hb hown HCO
  go_wp2_with fail
  refine HGR.out.mono ?_
  rintro e w2 ⟨v, rfl, hown, hb⟩
  have hgl := groups_len (cols L) WD
  rw [cols_len] at hgl
  obtain ⟨GA, gc, rfl, hgr⟩ := hown.form
  obtain ⟨G, hG⟩ : ∃ G, groups (cols L) WD = G := ⟨_, rfl⟩
  have HG := Lib.hid hG
  rw [hG] at hgr hgl ⊢
  obtain ⟨ng, hng⟩ : ∃ ng, G.length = ng := ⟨_, rfl⟩
  have HNG := Lib.hid hng
  rw [hng] at hgr hgl ⊢
  have HR := Lib.hid hgr
  have HB2 : Hid (Below w.heap.size w w2) := HB1.out.trans (hb.mono HB1.out.size)
  have hng2 : ng ≤ 100000 := by omega
  clear hgr hb hown HGR hG hng
  go_wp2_with fail
  go_loopw [5, 18] (fun v5 v18 wr => ∃ i : Nat, i ≤ ng ∧ v18 = .int .i64 i ∧ Hid (OwnS wr w2.heap.size v5 (wrapG (fun g => alignL (partP L g)) G i)) ∧ Hid (Below w2.heap.size w2 wr)) (fun _ v18 _ => ng - (intOf v18).toNat)
  case atStart => exact ⟨0, Nat.zero_le _, rfl, OwnS.nil _ _, Below.refl _ _⟩
  case round =>
    obtain ⟨i, hi, rfl, HO, HBR⟩ := hrel
    obtain ⟨w0, hw0⟩ : ∃ w0, wr = w0 := ⟨_, rfl⟩
    rw [hw0] at HO HBR ⊢
    clear hw0
    have HB : Hid (Below w.heap.size w w0) := HB2.out.trans (HBR.out.mono HB2.out.size)
    by_cases hlt : i < ng
    · have hiz : (i : Int) < (ng : Int) := by omega
      have hiA : (0 : Int) ≤ (i : Int) := by omega
      obtain ⟨gd, p, rfl, hgb, hp, hc0, hc1⟩ := HR.out.at_ hlt
      obtain ⟨f, e⟩ := p
      have hg0 : w0.cell? (gd.add (i * 2)) = some (.int .i64 (f : Int)) := (HBR.out.cell (by rw [block_of_add]; exact hgb)).trans hc0
      have hg1 := (HBR.out.cell (p := ⟨(gd.add (i * 2)).block, (gd.add (i * 2)).off + 1, none⟩) (by show (gd.add (i * 2)).block < _; rw [block_of_add]; exact hgb)).trans hc1
      have HP := Lib.hid hp
      clear hc0 hc1 hp
      go_wp2_with fail
      have hf0 : (w0.alloc (.cells #[.int .i64 (f : Int), .int .i64 (e : Int)] 40)).cell? ⟨w0.heap.size, 0, none⟩ = some (.int .i64 (f : Int)) := by rw [World.cell?_alloc_at _ _ _ _ rfl]; rfl
      have hf1 : (w0.alloc (.cells #[.int .i64 (f : Int), .int .i64 (e : Int)] 40)).cell? ⟨w0.heap.size, 1, none⟩ = some (.int .i64 (e : Int)) := by rw [World.cell?_alloc_at _ _ _ _ rfl]; rfl
      have hsz3 : (w0.alloc (.cells #[.int .i64 (f : Int), .int .i64 (e : Int)] 40)).heap.size = w0.heap.size + 1 := by simp
      have HB03 : Hid (Below w0.heap.size w0 (w0.alloc (.cells #[.int .i64 (f : Int), .int .i64 (e : Int)] 40))) := below_new _ _
      obtain ⟨w3, hw3⟩ : ∃ w3, w0.alloc (.cells #[.int .i64 (f : Int), .int .i64 (e : Int)] 40) = w3 := ⟨_, rfl⟩
      obtain ⟨bk, hbk⟩ : ∃ bk, w0.heap.size = bk := ⟨_, rfl⟩
      rw [hw3, hbk] at hf0 hf1 hsz3
      rw [hw3] at HB03 ⊢
      rw [hbk]
      have HZ3 := Lib.hid hsz3
      have hbk3 : bk < w3.heap.size := by omega
      have HF0 : Hid (∀ W, Below w3.heap.size w3 W → W.cell? ⟨bk, 0, none⟩ = some (.int .i64 (f : Int))) := fun W hW => (hW.cell hbk3).trans hf0
      have HF1 : Hid (∀ W, Below w3.heap.size w3 W → W.cell? ⟨bk, 1, none⟩ = some (.int .i64 (e : Int))) := fun W hW => (hW.cell hbk3).trans hf1
      have HBK := Lib.hid hbk
      have HB3 : Hid (Below w.heap.size w w3) := HB.out.trans (HB03.out.mono HB.out.size)
      clear hw3 hbk hf0 hf1 hsz3 hg0 hg1
      go_loopw [8, 25] (fun v8 v25 wi => ∃ k : Nat, k ≤ n ∧ v25 = .int .i64 k ∧ Hid (PartO wi w v8 w3.heap.size ((partP L (f, e)).take k)) ∧ Hid (Below w3.heap.size w3 wi)) (fun _ v25 _ => n - (intOf v25).toNat)
      case atStart => exact ⟨0, Nat.zero_le _, rfl, (by rw [List.take_zero]; exact PartO.nil _ _ _), Below.refl _ _⟩
      case round =>
        obtain ⟨k, hk, rfl, HPA, HBI⟩ := hrel
        obtain ⟨wi, hwi⟩ : ∃ wi, wi = wr := ⟨_, rfl⟩
        rw [← hwi] at HPA HBI ⊢
        clear hwi
        have HBW : Hid (Below w.heap.size w wi) := HB3.out.trans (HBI.out.mono HB3.out.size)
        by_cases hkl : k < n
        · have hkz : (k : Int) < (n : Int) := by omega
          obtain ⟨ad, r, RA, rn, rc, rfl, hadb, hr, hcr, hsr, hrc1, hrc2⟩ := HL.out.at_ hkl
          have hcr0 : wi.cell? (ad.add k) = some (.slice RA rn rc) := (HBW.out.cell (by rw [block_of_add]; exact hadb)).trans hcr
          have hrn : rn ≤ 100000 := by have := hsr.len; have := (HZ.out.row hr).1; omega
          have hrl := hsr.len
          obtain ⟨a, ha⟩ : ∃ a, min f rn = a := ⟨_, rfl⟩
          obtain ⟨b, hb⟩ : ∃ b, min e rn = b := ⟨_, rfl⟩
          have hfe : f ≤ e := by
            have h1 := (groups_ok (cols L) WD).each i f e (by rw [HG.out]; exact HP.out)
            omega
          have hab : a ≤ b := by omega
          have hbr : b ≤ rn := by omega
          have hm1 : min (f : Int) (rn : Int) = (a : Int) := by omega
          have hm2 : min (e : Int) (rn : Int) = (b : Int) := by omega
          have HNX : Hid ((partP L (f, e)).take (k + 1) = (partP L (f, e)).take k ++ [(r.take b).drop a]) := by
            show _ = _
            rw [partP_take (f, e) hr, hrl]
            show _ ++ [(r.take (min e rn)).drop (min f rn)] = _
            rw [ha, hb]
          have hsp := SR.part hsr hab hbr
          have hp0 : ∀ p : BW wi, p.at_.cell? ⟨bk, 0, none⟩ = some (.int .i64 (f : Int)) := fun p => HF0.out _ (HBI.out.trans (p.bel.mono HBI.out.size))
          have hp1 : ∀ p : BW wi, p.at_.cell? ⟨bk, 1, none⟩ = some (.int .i64 (e : Int)) := fun p => HF1.out _ (HBI.out.trans (p.bel.mono HBI.out.size))
          have hpl : ((partP L (f, e)).take k).length = k := by rw [List.length_take, partP_len, HLN.out]; omega
          have HPL := Lib.hid hpl
          clear ha hb hfe hsr hr hcr hrl hpl
          go_wp2_with fail
          refine wp_region_quiet_below (by kernel_rfl) (by kernel_rfl) ?_
          repeat (go_big_quiet_step (fail))
          refine wpQuiet_nil ?_
          intro w4 hw'
          have hb4 := bw_below hw'
          have HPA4 := Lib.hid (HPA.out.on hb4)
          have HB4 : Hid (Below w3.heap.size w3 w4) := HBI.out.trans (hb4.mono HBI.out.size)
          clear hw' hb4 hp0 hp1 hcr0 hm1 hm2
          have habz : (a : Int) ≤ (b : Int) := by omega
          have hbrz : (b : Int) ≤ (rc : Int) := by omega
          have haz : (0 : Int) ≤ (a : Int) := by omega
          by_cases hba : b = a
          · subst hba
            rw [if_pos rfl, Nat.sub_self] at hsp
            have HSP := Lib.hid hsp
            have hle : b ≤ b := Nat.le_refl _
            clear hsp hab habz
            obtain ⟨xs, hx1, hx2⟩ := HPA4.out
            rw [HPL.out] at hx1
            have hxl : xs.length = ((partP L (f, e)).take k).length := by have := hx1.1; rw [HPL.out]; omega
            have HX1 := Lib.hid hx1
            have HX2 := Lib.hid hx2
            have HXL := Lib.hid hxl
            have hsz4 := HB4.out.size
            clear hx1 hx2 hxl
            go_wp2_with (at_builtin; refine wpList_app1 rfl (.tmp 39) (.tmp 45) 26 rfl w3.heap.size 36 24 (.slice none 0 0) info_strings rfl Tryd.underlying26 rfl HX1.out rfl rfl (by omega) (by omega) hsz4 ?_; rintro v7 w5 hown7 hb7 hs7 hk7; clear hk7)
            rw [← HPL.out] at hown7
            have hpa5 := PartO.add hown7 HXL.out HX2.out HSP.out (by omega) (by omega)
            rw [← HNX.out] at hpa5
            have HPA5 := Lib.hid hpa5
            have HB5 : Hid (Below w3.heap.size w3 w5) := HB4.out.trans hb7
            clear hown7 hb7 hs7 hpa5
            go_wp2
            go_roundw
            case rel => exact ⟨k + 1, by omega, by go_num, HPA5, HB5⟩
            case measure => simp [intOf]; omega
          · have hba2 : a < b := by omega
            have hba3 : (a : Int) < (b : Int) := by omega
            rw [if_neg hba] at hsp
            have HSP := Lib.hid hsp
            clear hsp
            obtain ⟨xs, hx1, hx2⟩ := HPA4.out
            rw [HPL.out] at hx1
            have hxl : xs.length = ((partP L (f, e)).take k).length := by have := hx1.1; rw [HPL.out]; omega
            have HX1 := Lib.hid hx1
            have HX2 := Lib.hid hx2
            have HXL := Lib.hid hxl
            have hsz4 := HB4.out.size
            clear hx1 hx2 hxl
            go_wp2_with (at_builtin; refine wpList_app1 rfl (.tmp 39) (.tmp 45) 26 rfl w3.heap.size 36 24 (.slice none 0 0) info_strings rfl Tryd.underlying26 rfl HX1.out rfl rfl (by omega) (by omega) hsz4 ?_; rintro v7 w5 hown7 hb7 hs7 hk7; clear hk7)
            rw [← HPL.out] at hown7
            have hpa5 := PartO.add hown7 HXL.out HX2.out HSP.out (by omega) (by omega)
            rw [← HNX.out] at hpa5
            have HPA5 := Lib.hid hpa5
            have HB5 : Hid (Below w3.heap.size w3 w5) := HB4.out.trans hb7
            clear hown7 hb7 hs7 hpa5
            go_wp2
            go_roundw
            case rel => exact ⟨k + 1, by omega, by go_num, HPA5, HB5⟩
            case measure => simp [intOf]; omega
        · obtain rfl : n = k := by omega
          have hkz : ¬ (n : Int) < (n : Int) := by omega
          have h0 := HPA.out
          rw [List.take_of_length_le (by rw [partP_len, HLN.out]; exact Nat.le_refl _)] at h0
          have HPA6 := Lib.hid h0
          have HAP := Lib.hid (h0.apart HO.out (HB03.out.size))
          have HO6 := Lib.hid ((HO.out.on HB03.out).on HBI.out)
          have HB6 : Hid (Below w2.heap.size w2 wi) := HBR.out.trans ((HB03.out.trans (HBI.out.mono HB03.out.size)).mono HBR.out.size)
          have hwl := wrapG_le (f := fun g => alignL (partP L g)) (G := G) (m := n) (fun g => by rw [alignL_len, partP_len, HLN.out]) i
          have hwl2 : i * (n + 1) ≤ 100000 * 100001 := Nat.mul_le_mul (by omega) (by omega)
          obtain ⟨OL, hOL⟩ : ∃ OL, wrapG (fun g => alignL (partP L g)) G i = OL := ⟨_, rfl⟩
          have hwl3 : OL.length ≤ 10000100000 := by rw [← hOL]; omega
          have hGi : G.getD i (0, 0) = (f, e) := getD_at HP.out
          have hsz6 := HB6.out.size
          have HI := Lib.hid hlt
          rw [hOL] at HO6
          clear h0 HPA hwl hwl2
          by_cases hi0 : 0 < i
          · have hi0z : (0 : Int) < (i : Int) := by omega
            have HWN : Hid (wrapG (fun g => alignL (partP L g)) G (i + 1) = (OL ++ [⟨#[]⟩]) ++ alignL (partP L (f, e))) := by
              show wrapG (fun g => alignL (partP L g)) G i ++ (if 0 < i then [(⟨#[]⟩ : ByteArray)] else []) ++ alignL (partP L (G.getD i (0, 0))) = _
              rw [if_pos hi0, hGi, hOL]
            have HO0 := HO
            clear hOL hGi HO
            go_wp2_with (at_builtin; refine wpList_app1 rfl (.tmp 50) (.tmp 51) 36 rfl w2.heap.size 9 16 (.string .empty) info_string rfl Tryd.underlying36 rfl HO6.out rfl rfl (by omega) (by omega) hsz6 ?_; intro v7 w7 hown7 hb7 hs7 hk7)
            have HO7 := Lib.hid (own_s (n := 0) hown7)
            have HB7 : Hid (Below w2.heap.size w2 w7) := HB6.out.trans hb7
            have HBW7 : Hid (Below w.heap.size w w7) := HBW.out.trans (hb7.mono HB2.out.size)
            have HPA7 := Lib.hid (HPA6.out.beside HAP.out hk7)
            have hol : (OL ++ [(⟨#[]⟩ : ByteArray)]).length ≤ 10000100001 := by rw [List.length_append, List.length_singleton]; omega
            clear hown7 hb7 hs7 hk7 HAP HPA6 HO6 HO0
            have hrows := HPA7.out.rows HBW7.out
            obtain ⟨PA, pc, hpv, hrows⟩ := hrows
            rw [partP_len, HLN.out] at hrows hpv
            subst hpv
            have HAL := Lib.hid (align_any PA n pc (partP L (f, e)) w7 hrows (partP_sz HZ.out (f, e)) (HT.out.on HBW7.out))
            clear hrows
            go_wp2_with fail
            refine HAL.out.mono ?_
            rintro e8 w8 ⟨v8, rfl, hown8, hb8⟩
            obtain ⟨A8, c8, rfl, h81, h82, hr8⟩ := hown8.form
            rw [alignL_len, partP_len, HLN.out] at hr8 ⊢
            have HR8 := Lib.hid hr8
            have HO8 := Lib.hid (HO7.out.on hb8)
            have HB8 : Hid (Below w2.heap.size w2 w8) := HB7.out.trans (hb8.mono HB7.out.size)
            have hsz8 := HB8.out.size
            clear hown8 hb8 hr8 h81 h82
            go_wp2_with (at_builtin; refine wpList_app rfl (.tmp 53) (.tmp 55) 36 rfl w2.heap.size 9 16 (.string .empty) info_string rfl Tryd.underlying36 rfl HO8.out rfl HR8.out (by simp [Value.oneCell']) (by omega) (by omega) hsz8 ?_; intro v9 w9 hown hg hat)
            have HO9 : Hid (OwnS w9 w2.heap.size v9 (wrapG (fun g => alignL (partP L g)) G (i + 1))) := by
              show World.ownsRow _ _ _ _ _ _ _
              rw [HWN.out, List.length_append, alignL_len, partP_len, HLN.out, List.map_append]
              exact hown
            have HB9 : Hid (Below w2.heap.size w2 w9) := HB8.out.grown hg hsz8 (fun k hk => (HO8.out.lt k hk).1)
            clear hown hg hat
            have hi1 : i + 1 ≤ ng := HI.out
            go_wp2
            go_roundw
            case rel => exact ⟨i + 1, hi1, by go_num, HO9, HB9⟩
            case measure => have := HI.out; simp [intOf]; omega
          · have hi0z : ¬ (0 : Int) < (i : Int) := by omega
            have HI0 : Hid (i = 0) := by show _ = _; omega
            have HWN : Hid (wrapG (fun g => alignL (partP L g)) G (i + 1) = OL ++ alignL (partP L (f, e))) := by
              show wrapG (fun g => alignL (partP L g)) G i ++ (if 0 < i then [(⟨#[]⟩ : ByteArray)] else []) ++ alignL (partP L (G.getD i (0, 0))) = _
              rw [if_neg hi0, hGi, hOL, List.append_nil]
            have HO7 := HO6
            have HB7 := HB6
            have HBW7 := HBW
            have HPA7 := HPA6
            have hol : OL.length ≤ 10000100001 := by omega
            clear hOL hGi HO HAP HPA6 HO6 hi0
            have hrows := HPA7.out.rows HBW7.out
            obtain ⟨PA, pc, hpv, hrows⟩ := hrows
            rw [partP_len, HLN.out] at hrows hpv
            subst hpv
            have HAL := Lib.hid (align_any PA n pc (partP L (f, e)) wi hrows (partP_sz HZ.out (f, e)) (HT.out.on HBW7.out))
            clear hrows
            go_wp2_with fail
            refine HAL.out.mono ?_
            rintro e8 w8 ⟨v8, rfl, hown8, hb8⟩
            obtain ⟨A8, c8, rfl, h81, h82, hr8⟩ := hown8.form
            rw [alignL_len, partP_len, HLN.out] at hr8 ⊢
            have HR8 := Lib.hid hr8
            have HO8 := Lib.hid (HO7.out.on hb8)
            have HB8 : Hid (Below w2.heap.size w2 w8) := HB7.out.trans (hb8.mono HB7.out.size)
            have hsz8 := HB8.out.size
            clear hown8 hb8 hr8 h81 h82
            go_wp2_with (at_builtin; refine wpList_app rfl (.tmp 53) (.tmp 55) 36 rfl w2.heap.size 9 16 (.string .empty) info_string rfl Tryd.underlying36 rfl HO8.out rfl HR8.out (by simp [Value.oneCell']) (by omega) (by omega) hsz8 ?_; intro v9 w9 hown hg hat)
            have HO9 : Hid (OwnS w9 w2.heap.size v9 (wrapG (fun g => alignL (partP L g)) G (i + 1))) := by
              show World.ownsRow _ _ _ _ _ _ _
              rw [HWN.out, List.length_append, alignL_len, partP_len, HLN.out, List.map_append]
              exact hown
            have HB9 : Hid (Below w2.heap.size w2 w9) := HB8.out.grown hg hsz8 (fun k hk => (HO8.out.lt k hk).1)
            clear hown hg hat
            have hi1 : i + 1 ≤ ng := HI.out
            go_wp2
            go_roundw
            case rel => exact ⟨i + 1, hi1, by go_num, HO9, HB9⟩
            case measure => have := HI.out; simp [intOf]; omega
    · obtain rfl : ng = i := by omega
      have hiz : ¬ (ng : Int) < (ng : Int) := by omega
      have h0 := HO.out
      have h1 : wrapG (fun g => alignL (partP L g)) G ng = wrapL L WD := by
        unfold wrapL
        rw [HG.out, HNG.out]
      rw [h1] at h0
      have HO5 := Lib.hid h0
      clear h0 h1
      go_wp2
      go_ret
      exact ⟨_, rfl, own_base HO5.out HB2.out.size, HB.out⟩
end Go.Proofs.YtacfeabdeaikhaaDoor
