import Derived.Test.YthcabnfcgjnlnaaGreatDoorB10
import Derived.Lib.SliceRun
import Derived.Lib.ItoaLen
import Derived.Lib.SmallJoins
import Derived.Maps.OwnOps
import Derived.Maps.Views
import Derived.DeepKeys4
set_option linter.unusedVariables false
set_option linter.unusedSimpArgs false
namespace Go.Proofs.YthcabnfcgjnlnaaGreatDoor
section
open Go.RowKit Ru Lay
attribute [local go_sem ↓] Go.wp_at_zero Go.wp_at_succ
theorem info_strings : (Tryz.prog.info? 45).map (fun i => (i.zero, i.size, i.bytes)) = some (some (.slice none 0 0), 1, 24) := by kernel_rfl
def PartO (W w : World) (v : Value) (base : Nat) (P : List (List ByteArray)) : Prop :=
 ∃ xs : List Value, W.ownsRow base 45 1 v P.length xs /\ ∀ (i : Nat) (l : List ByteArray), P[i]? = some l -> ∃ A' n' c', xs[i]? = some (Value.slice A' n' c') /\ SR w w.heap.size A' n' l /\ n' <= c' /\ c' <= 9223372036854775807
theorem PartO.nil (W w : World) (base : Nat) : PartO W w (.slice none 0 0) base [] := ⟨[], World.ownsRow_nil _ _ _ _, fun i l h => by simp at h⟩
theorem PartO.on {W W' w : World} {v : Value} {base : Nat} {P : List (List ByteArray)} (h : PartO W w v base P) (hb : Below W.heap.size W W') : PartO W' w v base P := by
 obtain ⟨xs, h1, h2⟩ := h;exact ⟨xs, own_below h1 hb, h2⟩
theorem PartO.rows {W w : World} {v : Value} {base : Nat} {P : List (List ByteArray)} (h : PartO W w v base P) (hb : Below w.heap.size w W) : ∃ A c, v = .slice A P.length c /\ RowsC W W.heap.size A P.length P := by
 obtain ⟨xs, h1, h2⟩ := h;obtain ⟨A, c, rfl, _, _, hr⟩ := own_form h1;refine ⟨A, c, rfl, xs, hr, rfl, fun i l hl => ?_⟩;obtain ⟨A', n', c', e, hs, h3, h4⟩ := h2 i l hl;exact ⟨A', n', c', e, SR.on hs hb, h3, h4⟩
theorem PartO.add {W' w : World} {v' : Value} {base : Nat} {P : List (List ByteArray)} {xs : List Value} {A : Option Addr} {n c : Nat} {r : List ByteArray}
  (h1 : W'.ownsRow base 45 1 v' (P.length + 1) (xs ++ [.slice A n c])) (hl : xs.length = P.length)
  (h2 : ∀ (i : Nat) (l : List ByteArray), P[i]? = some l -> ∃ A' n' c', xs[i]? = some (Value.slice A' n' c') /\ SR w w.heap.size A' n' l /\ n' <= c' /\ c' <= 9223372036854775807)
  (hr : SR w w.heap.size A n r) (hnc : n <= c) (hc : c <= 9223372036854775807) : PartO W' w v' base (P ++ [r]) := by
 refine ⟨xs ++ [.slice A n c], by rw [List.length_append]; exact h1, fun i l hi => ?_⟩;by_cases hlt : i < P.length
 ·rw [List.getElem?_append_left hlt] at hi;obtain ⟨A', n', c', e, h3⟩ := h2 i l hi;exact ⟨A', n', c', by rw [List.getElem?_append_left (by omega)]; exact e, h3⟩
 ·rw [List.getElem?_append_right (by omega)] at hi
  have hi0 : i - P.length = 0 := by
   have := (List.getElem?_eq_some_iff.1 hi).1;simp at this
   omega
  rw [hi0] at hi;simp at hi
  subst hi;exact ⟨A, n, c, by rw [List.getElem?_append_right (by omega), hl, hi0]; rfl, hr, hnc, hc⟩
theorem PartO.beside {W W' w : World} {u v v' : Value} {base : Nat} {P : List (List ByteArray)} (h : PartO W w u base P) (hap : Apart u v)
  (hk : ∀ (base2 e2 size2 : Nat) (u : Value) (m : Nat) (ys : List Value), W.ownsRow base2 e2 size2 u m ys -> Apart u v -> W'.ownsRow base2 e2 size2 u m ys /\ Apart u v') : PartO W' w u base P := by
 obtain ⟨xs, h1, h2⟩ := h;exact ⟨xs, (hk _ _ _ _ _ _ h1 hap).1, h2⟩
theorem PartO.apart {W W0 w : World} {u v : Value} {base base2 n : Nat} {e : TypeId} {xs : List Value} {P : List (List ByteArray)} (h : PartO W w u base P) (h2 : W0.ownsRow base2 e 1 v n xs) (hb : W0.heap.size <= base) : Apart u v := by
 obtain ⟨ys, h1, _⟩ := h;intro b hu hv;have h3 := (h1.lt b hu).1;have h4 := (h2.lt b hv).2;omega
theorem partP_len (L : List (List ByteArray)) (g : Nat × Nat) : (partP L g).length = L.length := by unfold partP; simp
theorem partP_sz {L : List (List ByteArray)} (h : SzL L) (g : Nat × Nat) : SzL (partP L g) := by
 refine ⟨by rw [partP_len]; exact h.1, fun r hr => ?_⟩;obtain ⟨x, hx, rfl⟩ := List.mem_map.1 hr;have hz := h.2 x hx;exact ⟨by rw [List.length_drop, List.length_take]; have := hz.1; omega, fun s hs => hz.2 s (List.mem_of_mem_take (List.mem_of_mem_drop hs))⟩
theorem partP_take {L : List (List ByteArray)} {k : Nat} {r : List ByteArray} (g : Nat × Nat) (h : L[k]? = some r) : (partP L g).take (k + 1) = (partP L g).take k ++ [(r.take (min g.2 r.length)).drop (min g.1 r.length)] := by
 refine take_atG ?_;unfold partP;rw [List.getElem?_map, h];rfl
theorem wrapG_le {f : Nat × Nat -> List ByteArray} {G : List (Nat × Nat)} {m : Nat} (hf : ∀ g, (f g).length = m) : ∀ i, (wrapG f G i).length <= i * (m + 1)
 | 0 => by simp [wrapG]
 | i + 1 => by
  have ih := wrapG_le (G := G) hf i;show (wrapG f G i ++ (if 0 < i then [(⟨#[]⟩ : ByteArray)] else []) ++ f _).length <= _;rw [List.length_append, List.length_append, hf];have h3 : (if 0 < i then [(⟨#[]⟩ : ByteArray)] else []).length <= 1 := by split <;> simp
  rw [Nat.add_mul];omega
theorem SR.part {w : World} {B n a b : Nat} {A : Option Addr} {r : List ByteArray} (h : SR w B A n r) (ha : a <= b) (hb : b <= n) : SR w B (if b = a then A else Option.map (fun x => x.add a) A) (b - a) ((r.take b).drop a) := by
 have h1 : Reads w B 1 A b ((r.map Value.string).take b) := Reads.take h hb;have h2 := Reads.cut (cap := b) h1 ha (Nat.le_refl _);rw [<- List.map_take, <- List.map_drop] at h2;exact h2
set_option maxHeartbeats 4000000 in
set_option maxRecDepth 100000 in
theorem wrap_any (A : Option Addr) (n c : Nat) (L : List (List ByteArray)) (WD : Int) (w : World) (hL : RowsC w w.heap.size A n L) (hz : SzL L) (hW : WD <= 9223372036854775807) (hT : Tabs w) :
  Calls Tryz.prog 43 #[.slice A n c, .int .i64 WD] w fun e w' => ∃ v, e = .returned v /\ OwnS w' w.heap.size v (wrapL L WD) /\ Below w.heap.size w w' := by
 have HT := hI hT;have HL := hI hL;have HZ := hI hz;have HLN := hI hL.len;have hn : n <= 100000 := by have := hL.len; have := hz.1; omega
 have HCO := hI (columns_any A n c L w hL hz hT);have hnm := hz.nmax
 have HCM : Hid (∀ x ∈ cols L, x <= 9223372036854775807) := fun x hx => by
  obtain ⟨k, _, rfl⟩ := List.mem_map.1 hx;have := hz.col k;omega
 clear hT hL hz;go_enter Tryz.func43, Tryz.ntmps43
 go_wp2_with fail
 refine HCO.out.mono ?_;rintro e w1 ⟨v, rfl, hown, hb⟩;obtain ⟨CA, cc, rfl, _, _, hir⟩ := hown.form;have HB1 := hI hb;have HGR := hI (groups_any CA (cols L).length cc (cols L) WD w1 hir (by rw [cols_len]; exact hnm) HCM.out hW);clear hir hb hown HCO;go_wp2_with fail
 refine HGR.out.mono ?_;rintro e w2 ⟨v, rfl, hown, hb⟩;have hgl := groups_len (cols L) WD;rw [cols_len] at hgl;obtain ⟨GA, gc, rfl, hgr⟩ := hown.form;obtain ⟨G, hG⟩ : ∃ G, groups (cols L) WD = G := ⟨_, rfl⟩;have HG := hI hG;rw [hG] at hgr hgl |-;obtain ⟨ng, hng⟩ : ∃ ng, G.length = ng := ⟨_, rfl⟩;have HNG := hI hng;rw [hng] at hgr hgl |-;have HR := hI hgr;have HB2 : Hid (Below w.heap.size w w2) := HB1.out.trans (hb.mono HB1.out.size);have hng2 : ng <= 100000 := by omega
 clear hgr hb hown HGR hG hng;go_wp2_with fail
 go_loopw [5, 18] (fun v5 v18 wr => ∃ i : Nat, i <= ng /\ v18 = .int .i64 i /\ Hid (OwnS wr w2.heap.size v5 (wrapG (fun g => alignL (partP L g)) G i)) /\ Hid (Below w2.heap.size w2 wr)) (fun _ v18 _ => ng - (intOf v18).toNat)
 case atStart => exact ⟨0, Nat.zero_le _, rfl, OwnS.nil _ _, Below.refl _ _⟩
 case round =>
  obtain ⟨i, hi, rfl, HO, HBR⟩ := hrel;obtain ⟨w0, hw0⟩ : ∃ w0, wr = w0 := ⟨_, rfl⟩;rw [hw0] at HO HBR |-;clear hw0;have HB : Hid (Below w.heap.size w w0) := HB2.out.trans (HBR.out.mono HB2.out.size);by_cases hlt : i < ng
  ·have hiz : (i : Int) < (ng : Int) := by omega
   have hiA : (0 : Int) <= (i : Int) := by omega
   obtain ⟨gd, p, rfl, hgb, hp, hc0, hc1⟩ := HR.out.at_ hlt;obtain ⟨f, e⟩ := p;have hg0 : w0.cell? (gd.add (i * 2)) = some (.int .i64 (f : Int)) := (HBR.out.cell (by rw [block_of_add]; exact hgb)).trans hc0;have hg1 := (HBR.out.cell (p := ⟨(gd.add (i * 2)).block, (gd.add (i * 2)).off + 1, none⟩) (by show (gd.add (i * 2)).block < _; rw [block_of_add]; exact hgb)).trans hc1;have HP := hI hp;clear hc0 hc1 hp;go_wp2_with fail
   have hf0 : (w0.alloc (.cells #[.int .i64 (f : Int), .int .i64 (e : Int)] 108)).cell? ⟨w0.heap.size, 0, none⟩ = some (.int .i64 (f : Int)) := by rw [World.cell?_alloc_at _ _ _ _ rfl]; rfl
   have hf1 : (w0.alloc (.cells #[.int .i64 (f : Int), .int .i64 (e : Int)] 108)).cell? ⟨w0.heap.size, 1, none⟩ = some (.int .i64 (e : Int)) := by rw [World.cell?_alloc_at _ _ _ _ rfl]; rfl
   have hsz3 : (w0.alloc (.cells #[.int .i64 (f : Int), .int .i64 (e : Int)] 108)).heap.size = w0.heap.size + 1 := by simp
   have HB03 : Hid (Below w0.heap.size w0 (w0.alloc (.cells #[.int .i64 (f : Int), .int .i64 (e : Int)] 108))) := below_new _ _;obtain ⟨w3, hw3⟩ : ∃ w3, w0.alloc (.cells #[.int .i64 (f : Int), .int .i64 (e : Int)] 108) = w3 := ⟨_, rfl⟩;obtain ⟨bk, hbk⟩ : ∃ bk, w0.heap.size = bk := ⟨_, rfl⟩;rw [hw3, hbk] at hf0 hf1 hsz3;rw [hw3] at HB03 |-;rw [hbk];have HZ3 := hI hsz3;have hbk3 : bk < w3.heap.size := by omega
   have HF0 : Hid (∀ W, Below w3.heap.size w3 W -> W.cell? ⟨bk, 0, none⟩ = some (.int .i64 (f : Int))) := fun W hW => (hW.cell hbk3).trans hf0
   have HF1 : Hid (∀ W, Below w3.heap.size w3 W -> W.cell? ⟨bk, 1, none⟩ = some (.int .i64 (e : Int))) := fun W hW => (hW.cell hbk3).trans hf1
   have HBK := hI hbk;have HB3 : Hid (Below w.heap.size w w3) := HB.out.trans (HB03.out.mono HB.out.size);clear hw3 hbk hf0 hf1 hsz3 hg0 hg1;go_loopw [8, 25] (fun v8 v25 wi => ∃ k : Nat, k <= n /\ v25 = .int .i64 k /\ Hid (PartO wi w v8 w3.heap.size ((partP L (f, e)).take k)) /\ Hid (Below w3.heap.size w3 wi)) (fun _ v25 _ => n - (intOf v25).toNat)
   case atStart => exact ⟨0, Nat.zero_le _, rfl, (by rw [List.take_zero]; exact PartO.nil _ _ _), Below.refl _ _⟩
   case round =>
    obtain ⟨k, hk, rfl, HPA, HBI⟩ := hrel;obtain ⟨wi, hwi⟩ : ∃ wi, wi = wr := ⟨_, rfl⟩;rw [<- hwi] at HPA HBI |-;clear hwi;have HBW : Hid (Below w.heap.size w wi) := HB3.out.trans (HBI.out.mono HB3.out.size);by_cases hkl : k < n
    ·have hkz : (k : Int) < (n : Int) := by omega
     obtain ⟨ad, r, RA, rn, rc, rfl, hadb, hr, hcr, hsr, hrc1, hrc2⟩ := HL.out.at_ hkl;have hcr0 : wi.cell? (ad.add k) = some (.slice RA rn rc) := (HBW.out.cell (by rw [block_of_add]; exact hadb)).trans hcr;have hrn : rn <= 100000 := by have := hsr.len; have := (HZ.out.row hr).1; omega
     have hrl := hsr.len;obtain ⟨a, ha⟩ : ∃ a, min f rn = a := ⟨_, rfl⟩;obtain ⟨b, hb⟩ : ∃ b, min e rn = b := ⟨_, rfl⟩
     have hfe : f <= e := by
      have h1 := (groups_ok (cols L) WD).each i f e (by rw [HG.out]; exact HP.out);omega
     have hab : a <= b := by omega
     have hbr : b <= rn := by omega
     have hm1 : min (f : Int) (rn : Int) = (a : Int) := by omega
     have hm2 : min (e : Int) (rn : Int) = (b : Int) := by omega
     have HNX : Hid ((partP L (f, e)).take (k + 1) = (partP L (f, e)).take k ++ [(r.take b).drop a]) := by
      show _ = _;rw [partP_take (f, e) hr, hrl];show _ ++ [(r.take (min e rn)).drop (min f rn)] = _;rw [ha, hb]
     have hsp := SR.part hsr hab hbr;have hp0 : ∀ p : BW wi, p.at_.cell? ⟨bk, 0, none⟩ = some (.int .i64 (f : Int)) := fun p => HF0.out _ (HBI.out.trans (p.bel.mono HBI.out.size))
     have hp1 : ∀ p : BW wi, p.at_.cell? ⟨bk, 1, none⟩ = some (.int .i64 (e : Int)) := fun p => HF1.out _ (HBI.out.trans (p.bel.mono HBI.out.size))
     have hpl : ((partP L (f, e)).take k).length = k := by rw [List.length_take, partP_len, HLN.out]; omega
     have HPL := hI hpl;clear ha hb hfe hsr hr hcr hrl hpl;go_wp2_with fail
     refine wp_region_quiet_below (by kernel_rfl) (by kernel_rfl) ?_;repeat (go_big_quiet_step (fail))
     refine wpQuiet_nil ?_;intro w4 hw';have hb4 := bw_below hw';have HPA4 := hI (HPA.out.on hb4);have HB4 : Hid (Below w3.heap.size w3 w4) := HBI.out.trans (hb4.mono HBI.out.size);clear hw' hb4 hp0 hp1 hcr0 hm1 hm2;have habz : (a : Int) <= (b : Int) := by omega
     have hbrz : (b : Int) <= (rc : Int) := by omega
     have haz : (0 : Int) <= (a : Int) := by omega
     by_cases hba : b = a
     ·subst hba;rw [if_pos rfl, Nat.sub_self] at hsp;have HSP := hI hsp;have hle : b <= b := Nat.le_refl _;clear hsp hab habz;obtain ⟨xs, hx1, hx2⟩ := HPA4.out;rw [HPL.out] at hx1;have hxl : xs.length = ((partP L (f, e)).take k).length := by have := hx1.1; rw [HPL.out]; omega
      have HX1 := hI hx1;have HX2 := hI hx2;have HXL := hI hxl;have hsz4 := HB4.out.size;clear hx1 hx2 hxl;go_wp2_with (at_builtin; refine wpList_app1 rfl (.tmp 39) (.tmp 45) 41 rfl w3.heap.size 45 24 (.slice none 0 0) info_strings rfl Tryz.underlying41 rfl HX1.out rfl rfl (by omega) (by omega) hsz4 ?_; rintro v7 w5 hown7 hb7 hs7 hk7; clear hk7)
      rw [<- HPL.out] at hown7;have hpa5 := PartO.add hown7 HXL.out HX2.out HSP.out (by omega) (by omega);rw [<- HNX.out] at hpa5;have HPA5 := hI hpa5;have HB5 : Hid (Below w3.heap.size w3 w5) := HB4.out.trans hb7;clear hown7 hb7 hs7 hpa5;go_wp2;go_roundw
      case rel => exact ⟨k + 1, by omega, by go_num, HPA5, HB5⟩
      case measure => simp [intOf]; omega
     ·have hba2 : a < b := by omega
      have hba3 : (a : Int) < (b : Int) := by omega
      rw [if_neg hba] at hsp;have HSP := hI hsp;clear hsp;obtain ⟨xs, hx1, hx2⟩ := HPA4.out;rw [HPL.out] at hx1;have hxl : xs.length = ((partP L (f, e)).take k).length := by have := hx1.1; rw [HPL.out]; omega
      have HX1 := hI hx1;have HX2 := hI hx2;have HXL := hI hxl;have hsz4 := HB4.out.size;clear hx1 hx2 hxl;go_wp2_with (at_builtin; refine wpList_app1 rfl (.tmp 39) (.tmp 45) 41 rfl w3.heap.size 45 24 (.slice none 0 0) info_strings rfl Tryz.underlying41 rfl HX1.out rfl rfl (by omega) (by omega) hsz4 ?_; rintro v7 w5 hown7 hb7 hs7 hk7; clear hk7)
      rw [<- HPL.out] at hown7;have hpa5 := PartO.add hown7 HXL.out HX2.out HSP.out (by omega) (by omega);rw [<- HNX.out] at hpa5;have HPA5 := hI hpa5;have HB5 : Hid (Below w3.heap.size w3 w5) := HB4.out.trans hb7;clear hown7 hb7 hs7 hpa5;go_wp2;go_roundw
      case rel => exact ⟨k + 1, by omega, by go_num, HPA5, HB5⟩
      case measure => simp [intOf]; omega
    ·obtain rfl : n = k := by omega
     have hkz : ¬ (n : Int) < (n : Int) := by omega
     have h0 := HPA.out;rw [List.take_of_length_le (by rw [partP_len, HLN.out]; exact Nat.le_refl _)] at h0;have HPA6 := hI h0;have HAP := hI (h0.apart HO.out (HB03.out.size));have HO6 := hI ((HO.out.on HB03.out).on HBI.out);have HB6 : Hid (Below w2.heap.size w2 wi) := HBR.out.trans ((HB03.out.trans (HBI.out.mono HB03.out.size)).mono HBR.out.size);have hwl := wrapG_le (f := fun g => alignL (partP L g)) (G := G) (m := n) (fun g => by rw [alignL_len, partP_len, HLN.out]) i;have hwl2 : i * (n + 1) <= 100000 * 100001 := Nat.mul_le_mul (by omega) (by omega);obtain ⟨OL, hOL⟩ : ∃ OL, wrapG (fun g => alignL (partP L g)) G i = OL := ⟨_, rfl⟩;have hwl3 : OL.length <= 10000100000 := by rw [<- hOL]; omega
     have hGi : G.getD i (0, 0) = (f, e) := getD_at HP.out;have hsz6 := HB6.out.size;have HI := hI hlt;rw [hOL] at HO6;clear h0 HPA hwl hwl2;by_cases hi0 : 0 < i
     ·have hi0z : (0 : Int) < (i : Int) := by omega
      have HWN : Hid (wrapG (fun g => alignL (partP L g)) G (i + 1) = (OL ++ [⟨#[]⟩]) ++ alignL (partP L (f, e))) := by
       show wrapG (fun g => alignL (partP L g)) G i ++ (if 0 < i then [(⟨#[]⟩ : ByteArray)] else []) ++ alignL (partP L (G.getD i (0, 0))) = _;rw [if_pos hi0, hGi, hOL]
      have HO0 := HO;clear hOL hGi HO;go_wp2_with (at_builtin; refine wpList_app1 rfl (.tmp 50) (.tmp 51) 45 rfl w2.heap.size 9 16 (.string .empty) info_string rfl Tryz.underlying45 rfl HO6.out rfl rfl (by omega) (by omega) hsz6 ?_; intro v7 w7 hown7 hb7 hs7 hk7)
      have HO7 := hI (own_s (n := 0) hown7);have HB7 : Hid (Below w2.heap.size w2 w7) := HB6.out.trans hb7;have HBW7 : Hid (Below w.heap.size w w7) := HBW.out.trans (hb7.mono HB2.out.size);have HPA7 := hI (HPA6.out.beside HAP.out hk7);have hol : (OL ++ [(⟨#[]⟩ : ByteArray)]).length <= 10000100001 := by rw [List.length_append, List.length_singleton]; omega
      clear hown7 hb7 hs7 hk7 HAP HPA6 HO6 HO0;have hrows := HPA7.out.rows HBW7.out;obtain ⟨PA, pc, hpv, hrows⟩ := hrows;rw [partP_len, HLN.out] at hrows hpv;subst hpv;have HAL := hI (align_any PA n pc (partP L (f, e)) w7 hrows (partP_sz HZ.out (f, e)) (HT.out.on HBW7.out));clear hrows;go_wp2_with fail
      refine HAL.out.mono ?_;rintro e8 w8 ⟨v8, rfl, hown8, hb8⟩;obtain ⟨A8, c8, rfl, h81, h82, hr8⟩ := hown8.form;rw [alignL_len, partP_len, HLN.out] at hr8 |-;have HR8 := hI hr8;have HO8 := hI (HO7.out.on hb8);have HB8 : Hid (Below w2.heap.size w2 w8) := HB7.out.trans (hb8.mono HB7.out.size);have hsz8 := HB8.out.size;clear hown8 hb8 hr8 h81 h82;go_wp2_with (at_builtin; refine wpList_app rfl (.tmp 53) (.tmp 55) 45 rfl w2.heap.size 9 16 (.string .empty) info_string rfl Tryz.underlying45 rfl HO8.out rfl HR8.out (by simp [Value.oneCell']) (by omega) (by omega) hsz8 ?_; intro v9 w9 hown hg hat)
      have HO9 : Hid (OwnS w9 w2.heap.size v9 (wrapG (fun g => alignL (partP L g)) G (i + 1))) := by
       show World.ownsRow _ _ _ _ _ _ _;rw [HWN.out, List.length_append, alignL_len, partP_len, HLN.out, List.map_append];exact hown
      have HB9 : Hid (Below w2.heap.size w2 w9) := HB8.out.grown hg hsz8 (fun k hk => (HO8.out.lt k hk).1);clear hown hg hat;have hi1 : i + 1 <= ng := HI.out;go_wp2;go_roundw
      case rel => exact ⟨i + 1, hi1, by go_num, HO9, HB9⟩
      case measure => have := HI.out; simp [intOf]; omega
     ·have hi0z : ¬ (0 : Int) < (i : Int) := by omega
      have HI0 : Hid (i = 0) := by show _ = _; omega
      have HWN : Hid (wrapG (fun g => alignL (partP L g)) G (i + 1) = OL ++ alignL (partP L (f, e))) := by
       show wrapG (fun g => alignL (partP L g)) G i ++ (if 0 < i then [(⟨#[]⟩ : ByteArray)] else []) ++ alignL (partP L (G.getD i (0, 0))) = _;rw [if_neg hi0, hGi, hOL, List.append_nil]
      have HO7 := HO6;have HB7 := HB6;have HBW7 := HBW;have HPA7 := HPA6;have hol : OL.length <= 10000100001 := by omega
      clear hOL hGi HO HAP HPA6 HO6 hi0;have hrows := HPA7.out.rows HBW7.out;obtain ⟨PA, pc, hpv, hrows⟩ := hrows;rw [partP_len, HLN.out] at hrows hpv;subst hpv;have HAL := hI (align_any PA n pc (partP L (f, e)) wi hrows (partP_sz HZ.out (f, e)) (HT.out.on HBW7.out));clear hrows;go_wp2_with fail
      refine HAL.out.mono ?_;rintro e8 w8 ⟨v8, rfl, hown8, hb8⟩;obtain ⟨A8, c8, rfl, h81, h82, hr8⟩ := hown8.form;rw [alignL_len, partP_len, HLN.out] at hr8 |-;have HR8 := hI hr8;have HO8 := hI (HO7.out.on hb8);have HB8 : Hid (Below w2.heap.size w2 w8) := HB7.out.trans (hb8.mono HB7.out.size);have hsz8 := HB8.out.size;clear hown8 hb8 hr8 h81 h82;go_wp2_with (at_builtin; refine wpList_app rfl (.tmp 53) (.tmp 55) 45 rfl w2.heap.size 9 16 (.string .empty) info_string rfl Tryz.underlying45 rfl HO8.out rfl HR8.out (by simp [Value.oneCell']) (by omega) (by omega) hsz8 ?_; intro v9 w9 hown hg hat)
      have HO9 : Hid (OwnS w9 w2.heap.size v9 (wrapG (fun g => alignL (partP L g)) G (i + 1))) := by
       show World.ownsRow _ _ _ _ _ _ _;rw [HWN.out, List.length_append, alignL_len, partP_len, HLN.out, List.map_append];exact hown
      have HB9 : Hid (Below w2.heap.size w2 w9) := HB8.out.grown hg hsz8 (fun k hk => (HO8.out.lt k hk).1);clear hown hg hat;have hi1 : i + 1 <= ng := HI.out;go_wp2;go_roundw
      case rel => exact ⟨i + 1, hi1, by go_num, HO9, HB9⟩
      case measure => have := HI.out; simp [intOf]; omega
  ·obtain rfl : ng = i := by omega
   have hiz : ¬ (ng : Int) < (ng : Int) := by omega
   have h0 := HO.out
   have h1 : wrapG (fun g => alignL (partP L g)) G ng = wrapL L WD := by
    unfold wrapL;rw [HG.out, HNG.out]
   rw [h1] at h0;have HO5 := hI h0;clear h0 h1;go_wp2;go_ret;exact ⟨_, rfl, own_base HO5.out HB2.out.size, HB.out⟩
theorem wrapL_short {L : List (List ByteArray)} {W : Int} (h : L.length <= 3 /\ nmax L <= 20) : (wrapL L W).length <= 100 := by
 by_cases h0 : 0 < nmax L
 ·rw [wrapL_len h0];have h1 := groups_len (cols L) W;rw [cols_len] at h1;have h2 : (groups (cols L) W).length * L.length <= 20 * 3 := Nat.mul_le_mul (by omega) h.1;omega
 ·rw [wrapL_none (by omega)]; exact Nat.zero_le _
theorem rowsL_few (T : List Ti) (l : List Nt) (id : Int) (K : Nat) (h : l.length <= 20) : (rowsL T l id K).length <= 3 /\ nmax (rowsL T l id K) <= 20 := by
 have hw := wordsL_len (T := T) (l := l) (id := id) (K := K);have h1 : (row1 T l (wordsL T l id K)).length <= 20 := by unfold row1; rw [List.length_map]; omega
 have h2 : (row2 T l (wordsL T l id K)).length <= 20 := by unfold row2; rw [List.length_map]; omega
 have h3 : (row3 T l (wordsL T l id K)).length <= 20 := by unfold row3; rw [List.length_map]; omega
 unfold rowsL rowsW;split
 ·split
  ·exact ⟨by simp, nmax_le fun r hr => by rw [List.mem_singleton] at hr; subst hr; simp⟩
  ·split
   ·refine ⟨by simp, nmax_le fun r hr => ?_⟩;simp only [List.mem_cons, List.not_mem_nil, or_false] at hr;rcases hr with rfl | rfl | rfl
    ·exact h1
    ·exact h2
    ·exact h3
   ·exact ⟨by simp, nmax_le fun r hr => by rw [List.mem_singleton] at hr; subst hr; exact h1⟩
 ·exact ⟨by simp, nmax_le fun r hr => by cases hr⟩
theorem txtZ_get {l : List Nt} (hz : TxtZ l) (i : Int) : ((getN l i).getD nt0).text.size <= 200 := textN_sz hz i
set_option maxHeartbeats 8000000 in
set_option maxRecDepth 100000 in
theorem example_any (d : Dv) (T : List Ti) (l : List Nt) (id : Int) (K : Nat) (WD : Int) (w : World) (hT : TiersR w w.heap.size d.ta d.tn T) (hl : NotesR w w.heap.size d.na d.nn l) (hL : LightN T l) (hU : TierUp T) (hn : d.nn < 20) (htn : d.tn <= 1000000)
  (hend : ∀ x, curF l x K = none) (hK : K <= 1000000) (hz : TxtZ l) (hWD : WD <= 9223372036854775807) (hTb : Tabs w) :
  Calls Tryz.prog 22 #[docV d, .int .i64 id, .int .i64 WD] w fun e w' => ∃ v, e = .returned v /\ OwnS w' w.heap.size v (exL T l id K WD) /\ Below w.heap.size w w' := by
 have hTl := hT.len;have hNl := hl.len;have HRW := hI fun (W : World) (hW : Below w.heap.size w W) => rowsP_any d T l id K W (hT.on hW) (hl.on hW) hL hU hn htn hend hK hz
 have HG := hI fun (W : World) (hW : Below w.heap.size w W) (i : Int) => get_any d l i W (hl.on hW) (by omega)
 have HRO := hI fun (W : World) (hW : Below w.heap.size w W) => role_any d.ta d.tn d.tc T 5 W (hT.on hW) (by omega)
 have hrl : roleT T 5 < ((T.length + 1 : Nat) : Int) := by rcases roleT_some T 5 with e | ⟨_, e, _⟩ <;> omega
 have HOF : Hid (∀ W, Below w.heap.size w W -> Calls Tryz.prog 45 #[docV d, .int .i64 (roleT T 5)] W fun e w' => ∃ v, e = .returned v /\ OwnI w' W.heap.size v (ofI T l (roleT T 5)) /\ Below W.heap.size W w') := fun W hW => ofP_any d T l hL hU hn htn (T.length + 1) (roleT T 5) W hrl (hT.on hW) (hl.on hW)
 have hlen : (ofI T l (roleT T 5)).length <= 20 := by have := ofI_len (T := T) (l := l) (t := roleT T 5); omega
 have HSZ := hI (rowsL_sz (T := T) (id := id) (K := K) hz (by omega));have HTB := hI fun (W : World) (hW : Below w.heap.size w W) => hTb.on hW
 have HTX := hI (txtZ_get hz);have hwl : (wrapL (rowsL T l id K) WD).length <= 100 := wrapL_short (rowsL_few T l id K (by omega));clear hT hl hL hU hend hz hTl hrl hNl hTb;unfold exL kidF;obtain ⟨rt, hrt⟩ : ∃ x, roleT T 5 = x := ⟨_, rfl⟩;rw [hrt] at HRO HOF hlen |-;obtain ⟨ids, hids⟩ : ∃ x, ofI T l rt = x := ⟨_, rfl⟩;rw [hids] at HOF hlen |-;obtain ⟨RL, hRL⟩ : ∃ x, rowsL T l id K = x := ⟨_, rfl⟩;rw [hRL] at HRW HSZ hwl |-;obtain ⟨WL, hWL⟩ : ∃ x, wrapL RL WD = x := ⟨_, rfl⟩;have HWL := hI hWL;rw [hWL] at hwl |-;obtain ⟨bs0, hbs0⟩ : ∃ x, (getN l id).isSome = x := ⟨_, rfl⟩;rw [hbs0] at HRW |-;clear hrt hids hRL hWL hbs0;unfold docV at HRW HG HOF;unfold docV;obtain ⟨rid, name, len, day, sa, sn, sc, ta, tn, tc, na, nn, nc⟩ := d;simp only at HRW HG HRO HOF hn htn |-;obtain ⟨W0, hW0, hz0, hB0, hK0⟩ := doc_cells w rid name len day sa ta na sn sc tn tc nn nc;have HB := hI hB0;have HK := hI hK0;have HBW : Hid (∀ W, Below W0.heap.size W0 W -> Below w.heap.size w W) := fun W hW => HB.out.trans (hW.mono HB.out.size)
 clear hB0 hK0;have HR0 := hI (HRW.out W0 HB.out);have hnilS : ∀ (w : World) (a : Option Addr) (n c : Nat), (binOp .eql 41 (.slice a n c) (.slice none 0 0)).run Tryz.prog w = .ok (.bool a.isNone) w := fun w a n c => Lib.run_eql_slice_nil w _ _ a n c 0 0 Tryz.underlying41
 go_enter Tryz.func22, Tryz.ntmps22
 go_upto_region 1 with fail
 (try rw [hW0])
 clear hW0 HRW;obtain ⟨k0, k1, k2, k3, k4, k5, k6⟩ := range7 (HK.out W0 (Below.refl _ _));go_wp2_with fail
 refine HR0.out.mono ?_;rintro e w2 ⟨hv, hb2⟩;have HB2 := hI hb2;clear hb2 k0 k1 k2 k3 k4 k5 k6 HR0
 cases bs0 with
 | false =>
  obtain rfl := hv.1 rfl;clear hv;go_wp2;go_ret;exact ⟨_, rfl, OwnS.nil _ _, HBW.out _ HB2.out⟩
 | true =>
  obtain ⟨g, n, c, rfl, hRC, hnc, hcm⟩ := hv.2 rfl;have HWR := hI (wrap_any (some ⟨g, 0, none⟩) n c RL WD w2 hRC HSZ.out hWD (HTB.out w2 (HBW.out _ HB2.out)));rw [HWL.out] at HWR;clear hRC hnc hcm;go_wp2_with fail
  refine HWR.out.mono ?_;rintro e w3 ⟨v8, rfl, hO8, hb3⟩;have HO8 := hI hO8;have HB23 := hI hb3;have HB3 := hI (HB2.out.trans (hb3.mono HB2.out.size));have hz23 := hb3.size;have hz02 := HB2.out.size;clear hO8 hb3 HWR;have k5 : w3.cell? ⟨w.heap.size, 5, none⟩ = some (.slice ta tn tc) := HK.out w3 HB3.out 5 _ rfl;have HRR := hI (HRO.out w3 (HBW.out _ HB3.out));go_wp2_with fail
  refine HRR.out.mono ?_;rintro e w4 ⟨rfl, hb4⟩;have HB4 := hI (HB3.out.trans (hb4.mono HB3.out.size));have HB24 := hI (HB23.out.trans (hb4.mono hz23));have HO84 := hI (HO8.out.on hb4);have hz24 := HB24.out.size;clear hb4 k5 HRR HO8;obtain ⟨k0, k1, k2, k3, k4, k5, k6⟩ := range7 (HK.out w4 HB4.out);have HOO := hI (HOF.out w4 (HBW.out _ HB4.out));go_wp2_with fail
  refine HOO.out.mono ?_;rintro e w5 ⟨v5, rfl, hO5, hb5⟩;obtain ⟨A5, c5, hv5, h5a, h5b, h5r⟩ := OwnI.form hO5;subst hv5;have HB5 := hI (HB4.out.trans (hb5.mono HB4.out.size));have HB25 := hI (HB24.out.trans (hb5.mono hz24));have HO85 := hI (HO84.out.on hb5);have HI5 := hI hO5
  have HAP5 : Hid (Apart (.slice A5 ids.length c5) v8) := fun b hb he => by
   have h1 := (hO5.lt b hb).1;have h2 := (HO84.out.lt b he).2;omega
  clear hO5 hb5 h5a h5b h5r k0 k1 k2 k3 k4 k5 k6 HOO HO84;go_wp2_with fail
  go_loopw [8, 11, 12, 13, 29] (fun v8 v11 v12 v13 v29 wr => ∃ i : Nat, i <= ids.length /\ v29 = .int .i64 i /\ Hid (OwnS wr w2.heap.size v8 (WL ++ ((ids.take i).filter fun k => decide (((getN l k).getD nt0).parent = id)).map fun x => quoB (textN l x))) /\ Hid (OwnI wr w4.heap.size (.slice A5 ids.length c5) ids) /\ Hid (Apart (.slice A5 ids.length c5) v8) /\ Hid (Below w2.heap.size w2 wr)) (fun _ _ _ _ v29 _ => ids.length - (intOf v29).toNat)
  case atStart => exact ⟨0, Nat.zero_le _, rfl, (by rw [List.take_zero, List.filter_nil, List.map_nil, List.append_nil]; exact HO85.out), HI5.out, HAP5.out, HB25.out⟩
  case round =>
   clear HO85 HI5 HAP5 HB25 HB5;obtain ⟨i, hi, rfl, HO, HI, HAP, HB26⟩ := hrel;obtain ⟨w6, hw6⟩ : ∃ w6, wr = w6 := ⟨_, rfl⟩;rw [hw6] at HO HI HB26 |-;clear hw6;have HB06 : Hid (Below W0.heap.size W0 w6) := HB2.out.trans (HB26.out.mono HB2.out.size);have hz26 := HB26.out.size;by_cases hlt : i < ids.length
   ·have hiz : (i : Int) < (ids.length : Int) := by omega
    have hiA : (0 : Int) <= (i : Int) := by omega
    obtain ⟨A9, c9, hv9, _, _, h9r⟩ := OwnI.form HI.out;injection hv9 with hA9 _ hc9
    rw [<- hA9] at h9r;obtain ⟨bd, x, hA, hbb, hidx, hc⟩ := h9r.at_ hlt;subst hA;have HLT := hI hlt;have HNX := hI (filter_next (p := fun k => decide (((getN l k).getD nt0).parent = id)) hidx)
    have hpt : (WL ++ ((ids.take i).filter fun k => decide (((getN l k).getD nt0).parent = id)).map fun x => quoB (textN l x)).length <= 120 := by
     have h1 := List.length_filter_le (fun k => decide (((getN l k).getD nt0).parent = id)) (ids.take i);rw [List.length_take] at h1;rw [List.length_append, List.length_map];omega
    obtain ⟨ll, hll⟩ : ∃ ll, ((ids.take i).filter fun k => decide (((getN l k).getD nt0).parent = id)) = ll := ⟨_, rfl⟩;rw [hll] at HNX hpt HO;have HGX := hI (HG.out w6 (HBW.out _ HB06.out) x);unfold getV noteV at HGX;have hsx := HTX.out x;have HTX2 : Hid (textN l x = ((getN l x).getD nt0).text) := rfl;obtain ⟨y, hy⟩ : ∃ y, (getN l x).getD nt0 = y := ⟨_, rfl⟩;obtain ⟨bs, hbs⟩ : ∃ bs, (getN l x).isSome = bs := ⟨_, rfl⟩;have HNX2 : Hid ((ids.take (i + 1)).filter (fun k => decide (((getN l k).getD nt0).parent = id)) = ll ++ if decide (y.parent = id) = true then [x] else []) := by rw [<- hy]; exact HNX.out
    rw [hy] at HGX hsx HTX2;rw [hbs] at HGX;obtain ⟨ML, hML⟩ : ∃ z, WL ++ ll.map (fun x => quoB (textN l x)) = z := ⟨_, rfl⟩;rw [hML] at HO hpt;have HML := hI hML;clear hidx hll HNX h9r hy hbs hA9 hc9 hML;obtain ⟨k0, k1, k2, k3, k4, k5, k6⟩ := range7 (HK.out w6 HB06.out);go_wp2_with fail
    refine HGX.out.mono ?_;rintro e w7 ⟨rfl, hb7⟩;obtain ⟨pn, hpn⟩ : ∃ pn, w7.heap.size = pn := ⟨_, rfl⟩;obtain ⟨W7, hW7⟩ : ∃ W7, w7.alloc (.cells #[.int .i64 y.nid, .int .i64 y.tier, .int .i64 y.parent, .int .i64 y.at1, .int .i64 y.at2, .int .i64 y.rank, .string y.text] 58) = W7 := ⟨_, rfl⟩;have hz7 : W7.heap.size = pn + 1 := by rw [<- hW7, <- hpn]; simp
    have hb7' : Below w6.heap.size w6 W7 := by rw [<- hW7]; exact hb7.alloc hb7.size _
    have c2 : W7.cell? ⟨pn, 2, none⟩ = some (.int .i64 y.parent) := by rw [<- hW7, <- hpn, World.cell?_alloc_new]; rfl
    have c6 : W7.cell? ⟨pn, 6, none⟩ = some (.string y.text) := by rw [<- hW7, <- hpn, World.cell?_alloc_new]; rfl
    have HOO := hI (HO.out.on hb7');have HIO := hI (HI.out.on hb7');have HB27 : Hid (Below w2.heap.size w2 W7) := HB26.out.trans (hb7'.mono hz26);have hz27 := HB27.out.size;clear hb7 hb7' k0 k1 k2 k3 k4 k5 k6 HGX HO HI hc;go_upto_region 10 with fail
    (try rw [hW7])
    (try rw [hpn])
    clear hW7 hpn;by_cases hp : y.parent = id
    ·have hd : decide (y.parent = id) = true := decide_eq_true hp;have hq : (y.parent == id) = true := beq_iff_eq.2 hp;have HD := hI hd;clear hp hd
     have hs1 : (⟨#[34]⟩ : ByteArray).size + y.text.size <= 9223372036854775807 := by
      have : (⟨#[34]⟩ : ByteArray).size = 1 := rfl;omega
     have hs2 : ((⟨#[34]⟩ : ByteArray) ++ y.text).size + (⟨#[34]⟩ : ByteArray).size <= 9223372036854775807 := by
      have : (⟨#[34]⟩ : ByteArray).size = 1 := rfl;rw [ByteArray.size_append];omega
     go_wp2_with (at_builtin; refine wpList_app1 rfl (.tmp 43) (.tmp 48) 45 rfl w2.heap.size 9 16 (.string .empty) info_string rfl Tryz.underlying45 rfl HOO.out (by rw [hz7]; rfl) rfl (by omega) (by omega) (by omega) ?_; rintro v5 w9 hown5 hb5 hs5 hk5)
     obtain ⟨hI4, hA4⟩ := hk5 _ _ _ _ _ _ HIO.out HAP.out;have HI4 := hI hI4;have HA4 := hI hA4;have HO4 : Hid (OwnS w9 w2.heap.size v5 (ML ++ [quoB y.text])) := own_s (n := 0) hown5;have HB4 : Hid (Below w2.heap.size w2 w9) := HB27.out.trans hb5
     have HML2 : Hid (WL ++ ((ids.take (i + 1)).filter fun k => decide (((getN l k).getD nt0).parent = id)).map (fun x => quoB (textN l x)) = ML ++ [quoB y.text]) := by
      show _ = _;rw [HNX2.out, if_pos HD.out, List.map_append, <- List.append_assoc, HML.out, List.map_cons, List.map_nil, HTX2.out]
     rw [<- HML2.out] at HO4;clear hown5 hb5 hk5 hI4 hA4;go_wp2;go_roundw
     case rel =>
      first
       | exact ⟨i + 1, HLT.out, by go_num, HO4, HI4, HA4, HB4⟩
       | ((repeat apply Exists.intro); refine ⟨?_, rfl⟩; exact ⟨i + 1, HLT.out, by go_num, HO4, HI4, HA4, HB4⟩)
     case measure => have := HLT.out; simp [intOf]; omega
    ·have hd : ¬ decide (y.parent = id) = true := by simpa using hp
     have hq : (y.parent == id) = false := beq_eq_false_iff_ne.2 hp
     have HML2 : Hid (WL ++ ((ids.take (i + 1)).filter fun k => decide (((getN l k).getD nt0).parent = id)).map (fun x => quoB (textN l x)) = ML) := by
      show _ = _;rw [HNX2.out, if_neg hd, List.append_nil, HML.out]
     rw [<- HML2.out] at HOO;clear hp hd;go_wp2;go_roundw
     case rel =>
      first
       | exact ⟨i + 1, HLT.out, by go_num, HOO, HIO, HAP, HB27⟩
       | ((repeat apply Exists.intro); refine ⟨?_, rfl⟩; exact ⟨i + 1, HLT.out, by go_num, HOO, HIO, HAP, HB27⟩)
     case measure => have := HLT.out; simp [intOf]; omega
   ·obtain rfl : i = ids.length := by omega
    have hiz : ¬ (ids.length : Int) < (ids.length : Int) := by omega
    rw [List.take_length] at HO;go_wp2;go_ret;exact ⟨_, rfl, own_base HO.out (by have := HB.out.size; omega), HBW.out _ HB06.out⟩
def Pow (w : World) : Prop := Lib.TabIs Tryz.prog w "internal/strconv.uint64pow10" .u64 Lib.pow10Tab
theorem Pow.on {w w' : World} (h : Pow w) (hb : Below w.heap.size w w') : Pow w' := by
 unfold Pow Lib.TabIs World.var? at *
 cases hg : Tryz.prog.globalNamed "internal/strconv.uint64pow10" with
 | none => rw [hg] at h; cases h
 | some g =>
  rw [hg] at h;simp only [Option.bind_some] at h |-
  have hlt : g < w.heap.size := by
   rcases Nat.lt_or_ge g w.heap.size with h' | h'
   ·exact h'
   ·rw [Array.getElem?_eq_none h'] at h; cases h
  rw [hb.block g hlt];exact h
def itoaB (n : Int) : ByteArray := ⟨(Lib.itoa n).toArray⟩
theorem itoaB_sz {n : Int} (h0 : -9223372036854775808 <= n) (h1 : n <= 9223372036854775807) : (itoaB n).size <= 21 := by
 show (List.toArray _).size <= _;rw [List.size_toArray];exact Lib.itoa_length_le n h0 h1
set_option maxHeartbeats 1000000 in
theorem numText_any (n : Int) (w : World) (h0 : -9223372036854775808 <= n) (h1 : n <= 9223372036854775807) (hp : Pow w) :
  Calls Tryz.prog 49 #[.int .i64 n] w fun e w' => e = .returned (.string (itoaB n)) /\ Below w.heap.size w w' := by
 have HI := hI (Tryz.strconv_Itoa n h0 h1 w hp);clear h0 h1 hp;go_enter Tryz.func49, Tryz.ntmps49
 go_wp2_with fail
 refine HI.out.mono ?_;rintro e w1 ⟨rfl, k, os, rfl⟩
 have HB : Hid (Below w.heap.size w (Sort.grow (w.drewN k) os)) := ⟨rfl, rfl, rfl, by simp [Sort.grow], fun i hi => by
  show ((w.drewN k).heap ++ os)[i]? = _;rw [Array.getElem?_append_left (by show i < w.heap.size; omega)];rfl⟩
 go_wp2;go_ret;exact ⟨rfl, HB.out⟩
end
section
abbrev Rf := Int × Int
def numsF (out : List Rf) : List Rf -> List Rf
 | [] => out
 | r :: rs => numsF (if r ∈ out then out else out ++ [r]) rs
def idxR (out : List Rf) (r : Rf) : Int := if r ∈ out then (out.idxOf r : Int) else -1
def numR (out : List Rf) (r : Rf) : Int := idxR out r + 1
theorem numR_zero {out : List Rf} {r : Rf} : numR out r = 0 ↔ r ∉ out := by
 unfold numR idxR;by_cases h : r ∈ out
 ·rw [if_pos h]; exact ⟨fun e => by omega, fun e => absurd h e⟩
 ·rw [if_neg h]; exact ⟨fun _ => h, fun _ => rfl⟩
theorem numR_range (out : List Rf) (r : Rf) : 0 <= numR out r /\ numR out r <= (out.length : Int) := by
 unfold numR idxR;by_cases h : r ∈ out
 ·rw [if_pos h];have := List.idxOf_lt_length_of_mem h;omega
 ·rw [if_neg h]; omega
theorem numR_pre {out s : List Rf} {r : Rf} (h : r ∈ out) : numR (out ++ s) r = numR out r := by
 unfold numR idxR;rw [if_pos h, if_pos (List.mem_append_left _ h), List.idxOf_append, if_pos h]
theorem numR_new {out : List Rf} {r : Rf} (h : r ∉ out) : numR (out ++ [r]) r = (out.length : Int) + 1 := by
 unfold numR idxR;rw [if_pos (by simp), List.idxOf_append, if_neg h];simp
theorem numR_other {out : List Rf} {r x : Rf} (h : x ≠ r) : numR (out ++ [r]) x = numR out x := by
 by_cases hx : x ∈ out
 ·exact numR_pre hx
 ·rw [numR_zero.2 hx, numR_zero.2 (by simp [hx, h])]
theorem numsF_snoc : ∀ (rs out : List Rf) (r : Rf), numsF out (rs ++ [r]) = (if r ∈ numsF out rs then numsF out rs else numsF out rs ++ [r])
 | [], out, r => rfl
 | a :: rs, out, r => by
  show numsF _ (rs ++ [r]) = _;rw [numsF_snoc rs]; rfl
theorem numsF_app : ∀ (rs ss out : List Rf), numsF out (rs ++ ss) = numsF (numsF out rs) ss
 | [], _, _ => rfl
 | a :: rs, ss, out => numsF_app rs ss _
theorem numsF_len : ∀ (rs out : List Rf), (numsF out rs).length <= out.length + rs.length
 | [], out => by simp [numsF]
 | r :: rs, out => by
  unfold numsF;have := numsF_len rs (if r ∈ out then out else out ++ [r]);by_cases h : r ∈ out
  ·rw [if_pos h] at this |-; simp only [List.length_cons]; omega
  ·rw [if_neg h] at this |-;rw [List.length_append] at this;simp only [List.length_cons, List.length_nil] at this |-; omega
end
section
open Go.RowKit Ru Lay
def encR (r : Rf) : List Value := [.int .i64 r.1, .int .i64 r.2]
theorem encR_len (r : Rf) : (encR r).length = 2 := rfl
def RfOk (r : Rf) : Prop := (Lit.int .i64 r.1).wf = true /\ (Lit.int .i64 r.2).wf = true
def RefsR (w : World) (B : Nat) (A : Option Addr) (n : Nat) (l : List Rf) : Prop := RecR encR 2 w B A n l
def RfO (w : World) (base : Nat) (v : Value) (l : List Rf) : Prop := OwnR encR 2 24 w base v l
theorem info_ref : (Tryz.prog.info? 24).map (fun i => (i.zero, i.size, i.bytes)) = some (some (.agg #[.int .i64 0, .int .i64 0]), 2, 16) := by kernel_rfl
theorem RefsR.on {w w' : World} {n : Nat} {A : Option Addr} {l : List Rf} (h : RefsR w w.heap.size A n l) (hb : Below w.heap.size w w') : RefsR w' w'.heap.size A n l := RecR.on h hb
theorem RefsR.below {w w' : World} {B n : Nat} {A : Option Addr} {l : List Rf} (h : RefsR w B A n l) (hb : Below B w w') : RefsR w' B A n l := RecR.below h hb
theorem RefsR.more {w : World} {B B' n : Nat} {A : Option Addr} {l : List Rf} (h : RefsR w B A n l) (hB : B <= B') : RefsR w B' A n l := ⟨h.1.more hB, h.2⟩
theorem RefsR.len {w : World} {B n : Nat} {A : Option Addr} {l : List Rf} (h : RefsR w B A n l) : l.length = n := h.2
theorem RefsR.at_ {w : World} {B n k : Nat} {A : Option Addr} {l : List Rf} (hh : RefsR w B A n l) (hk : k < n) :
  ∃ ad x, A = some ad /\ ad.block < B /\ l[k]? = some x /\ ∀ W, Below B w W -> W.cell? (ad.add (k * 2)) = some (.int .i64 x.1) /\ W.cell? ⟨(ad.add (k * 2)).block, (ad.add (k * 2)).off + 1, none⟩ = some (.int .i64 x.2) := by
 obtain ⟨ad, x, e, hb, hx, _, _⟩ := RecR.at_ encR_len (by omega) hh hk;refine ⟨ad, x, e, hb, hx, fun W hW => ?_⟩;obtain ⟨ad', x', e', _, hx', h0, hj⟩ := RecR.at_ encR_len (by omega) (RecR.below hh hW) hk;rw [e] at e'
 cases e'
 rw [hx] at hx'
 cases hx'
 exact ⟨h0 _ rfl, hj 1 _ (by omega) rfl⟩
theorem RfO.form {w : World} {base : Nat} {v : Value} {l : List Rf} (h : RfO w base v l) : ∃ A c, v = .slice A l.length c /\ l.length <= c /\ c <= 9223372036854775807 /\ RefsR w w.heap.size A l.length l := OwnR.form h
theorem RfO.on {w w' : World} {base : Nat} {v : Value} {l : List Rf} (h : RfO w base v l) (hb : Below w.heap.size w w') : RfO w' base v l := OwnR.on h hb
structure Pt where
 pid : Int
 title : ByteArray
 text : ByteArray
 ea : Option Addr
 en : Nat
 ec : Nat
 ra : Option Addr
 rn : Nat
 rc : Nat
 refs : List Rf
def encP (p : Pt) : List Value := [.int .i64 p.pid, .string p.title, .string p.text, .slice p.ea p.en p.ec, .slice p.ra p.rn p.rc]
theorem encP_len (p : Pt) : (encP p).length = 5 := rfl
structure PtR (w : World) (B : Nat) (p : Pt) : Prop where
 refs : RefsR w B p.ra p.rn p.refs
 ok : ∀ r ∈ p.refs, RfOk r
 size : p.title.size <= 9223372036854775807 /\ p.text.size <= 9223372036854775807 /\ p.rn <= 9223372036854775807
theorem PtR.below {w w' : World} {B : Nat} {p : Pt} (h : PtR w B p) (hb : Below B w w') : PtR w' B p := ⟨h.refs.below hb, h.ok, h.size⟩
theorem PtR.more {w : World} {B B' : Nat} {p : Pt} (h : PtR w B p) (hB : B <= B') : PtR w B' p := ⟨h.refs.more hB, h.ok, h.size⟩
def PtsR (w : World) (B : Nat) (A : Option Addr) (n : Nat) (l : List Pt) : Prop := RecR encP 5 w B A n l /\ ∀ p ∈ l, PtR w B p
theorem PtsR.below {w w' : World} {B n : Nat} {A : Option Addr} {l : List Pt} (h : PtsR w B A n l) (hb : Below B w w') : PtsR w' B A n l := ⟨h.1.below hb, fun p hp => (h.2 p hp).below hb⟩
theorem PtsR.more {w : World} {B B' n : Nat} {A : Option Addr} {l : List Pt} (h : PtsR w B A n l) (hB : B <= B') : PtsR w B' A n l := ⟨⟨h.1.1.more hB, h.1.2⟩, fun p hp => (h.2 p hp).more hB⟩
theorem PtsR.on {w w' : World} {n : Nat} {A : Option Addr} {l : List Pt} (h : PtsR w w.heap.size A n l) (hb : Below w.heap.size w w') : PtsR w' w'.heap.size A n l := (h.below hb).more hb.size
theorem PtsR.len {w : World} {B n : Nat} {A : Option Addr} {l : List Pt} (h : PtsR w B A n l) : l.length = n := h.1.2
theorem PtsR.at_ {w : World} {B n k : Nat} {A : Option Addr} {l : List Pt} (hh : PtsR w B A n l) (hk : k < n) :
  ∃ ad x, A = some ad /\ ad.block < B /\ l[k]? = some x /\ PtR w B x /\ ∀ W, Below B w W -> W.cell? (ad.add (k * 5)) = some (.int .i64 x.pid) /\ W.cell? ⟨(ad.add (k * 5)).block, (ad.add (k * 5)).off + 1, none⟩ = some (.string x.title) /\
   W.cell? ⟨(ad.add (k * 5)).block, (ad.add (k * 5)).off + 2, none⟩ = some (.string x.text) /\ W.cell? ⟨(ad.add (k * 5)).block, (ad.add (k * 5)).off + 3, none⟩ = some (.slice x.ea x.en x.ec) /\
   W.cell? ⟨(ad.add (k * 5)).block, (ad.add (k * 5)).off + 4, none⟩ = some (.slice x.ra x.rn x.rc) := by
 obtain ⟨ad, x, e, hb, hx, _, _⟩ := RecR.at_ encP_len (by omega) hh.1 hk;refine ⟨ad, x, e, hb, hx, hh.2 x (List.mem_of_getElem? hx), fun W hW => ?_⟩;obtain ⟨ad', x', e', _, hx', h0, hj⟩ := RecR.at_ encP_len (by omega) (RecR.below hh.1 hW) hk;rw [e] at e'
 cases e'
 rw [hx] at hx'
 cases hx'
 exact ⟨h0 _ rfl, hj 1 _ (by omega) rfl, hj 2 _ (by omega) rfl, hj 3 _ (by omega) rfl, hj 4 _ (by omega) rfl⟩
def allR (l : List Pt) : List Rf := l.flatMap Pt.refs
theorem allR_next {l : List Pt} {i : Nat} {p : Pt} (h : l[i]? = some p) : allR (l.take (i + 1)) = allR (l.take i) ++ p.refs := by
 unfold allR;rw [List.take_add_one, h];simp [List.flatMap_append]
end
section
open Go.RowKit Ru Lay Srt Col
def headB (i : Nat) (p : Pt) : ByteArray := itoaB ((i : Int) + 1) ++ ⟨#[46, 32]⟩ ++ p.title
def refB (out : List Rf) (r : Rf) : ByteArray := ⟨#[32, 32, 40]⟩ ++ itoaB (numR out r) ++ ⟨#[41, 32, 91]⟩ ++ itoaB r.1 ++ ⟨#[46]⟩ ++ itoaB r.2 ++ ⟨#[93]⟩
def exC (WD : Int) (o : Option Dc) (id : Int) : List ByteArray := match o with
 | none => []
 | some x => exL x.T x.l id x.T.length WD
def refL (out : List Rf) (D : List Dc) (WD : Int) (r : Rf) : List ByteArray := refB out r :: (exC WD (docF D r.1) r.2).map indB
def txtL (p : Pt) : List ByteArray := if p.text.size = 0 then [] else [p.text]
def ptL (out : List Rf) (D : List Dc) (WD : Int) (i : Nat) (p : Pt) : List ByteArray := headB i p :: (txtL p ++ p.refs.flatMap (refL out D WD))
def linesM (out : List Rf) (D : List Dc) (WD : Int) (L : List Pt) : Nat -> List ByteArray
 | 0 => []
 | i + 1 => linesM out D WD L i ++ (match L[i]? with | none => [] | some p => ptL out D WD i p)
def linesG (D : List Dc) (L : List Pt) (WD : Int) : List ByteArray := linesM (numsF [] (allR L)) D WD L L.length
theorem linesM_next {out : List Rf} {D : List Dc} {WD : Int} {L : List Pt} {i : Nat} {p : Pt} (h : L[i]? = some p) : linesM out D WD L (i + 1) = linesM out D WD L i ++ ptL out D WD i p := by
 show linesM out D WD L i ++ (match L[i]? with | none => [] | some p => ptL out D WD i p) = _;rw [h]
theorem exL_len {T : List Ti} {l : List Nt} {id : Int} {K : Nat} {WD : Int} (h : l.length <= 20) : (exL T l id K WD).length <= 120 := by
 unfold exL;split
 ·rw [List.length_append, List.length_map];have h1 := wrapL_short (W := WD) (rowsL_few T l id K h)
  have h2 : (kidF T l id (roleT T 5)).length <= 20 := by
   unfold kidF;have h3 := List.length_filter_le (fun k => decide (((getN l k).getD nt0).parent = id)) (ofI T l (roleT T 5));have h4 := ofI_len (T := T) (l := l) (t := roleT T 5);omega
  omega
 ·exact Nat.zero_le _
theorem exC_len {D : List Dc} (h : ∀ x ∈ D, x.l.length <= 20) (WD : Int) (rec id : Int) : (exC WD (docF D rec) id).length <= 120 := by
 unfold exC
 cases e : docF D rec with
 | none => exact Nat.zero_le _
 | some x => exact exL_len (h x (docF_mem e).1)
theorem refL_len {out : List Rf} {D : List Dc} (h : ∀ x ∈ D, x.l.length <= 20) (WD : Int) (r : Rf) : (refL out D WD r).length <= 121 := by
 unfold refL;rw [List.length_cons, List.length_map];have := exC_len h WD r.1 r.2;omega
theorem flatG_le {out : List Rf} {D : List Dc} (h : ∀ x ∈ D, x.l.length <= 20) (WD : Int) : ∀ (rs : List Rf), (rs.flatMap (refL out D WD)).length <= rs.length * 121
 | [] => by simp
 | r :: rs => by
  rw [List.flatMap_cons, List.length_append, List.length_cons, Nat.succ_mul];have h1 := flatG_le h WD rs (out := out);have h2 := refL_len h WD r (out := out);omega
theorem txtL_len (p : Pt) : (txtL p).length <= 1 := by
 unfold txtL;split
 ·exact Nat.zero_le _
 ·exact Nat.le_refl _
theorem ptL_len {out : List Rf} {D : List Dc} (h : ∀ x ∈ D, x.l.length <= 20) (WD : Int) (i : Nat) {p : Pt} (hp : p.refs.length <= 1000) : (ptL out D WD i p).length <= 122000 := by
 unfold ptL;rw [List.length_cons, List.length_append];have h1 := flatG_le h WD p.refs (out := out);have h2 := txtL_len p;have : p.refs.length * 121 <= 1000 * 121 := Nat.mul_le_mul_right _ hp;omega
theorem linesM_le {out : List Rf} {D : List Dc} {WD : Int} {L : List Pt} {c : Nat} (h : ∀ i p, p ∈ L -> (ptL out D WD i p).length <= c) : ∀ i, (linesM out D WD L i).length <= i * c
 | 0 => by simp [linesM]
 | i + 1 => by
  show (linesM out D WD L i ++ (match L[i]? with | none => [] | some p => ptL out D WD i p)).length <= _;have h1 := linesM_le h i;rw [List.length_append, Nat.succ_mul]
  cases e : L[i]? with
  | none => exact Nat.add_le_add h1 (Nat.zero_le _)
  | some p => exact Nat.add_le_add h1 (h i p (List.mem_of_getElem? e))
theorem linesM_len {out : List Rf} {D : List Dc} (h : ∀ x ∈ D, x.l.length <= 20) (WD : Int) {L : List Pt} (hp : ∀ p ∈ L, p.refs.length <= 1000) (i : Nat) : (linesM out D WD L i).length <= i * 122000 :=
 linesM_le (fun i p hm => ptL_len h WD i (hp p hm)) i
theorem flat_next {α : Type} (f : Rf -> List α) {rs : List Rf} {j : Nat} {r : Rf} (h : rs[j]? = some r) : (rs.take (j + 1)).flatMap f = (rs.take j).flatMap f ++ f r := by
 rw [List.take_add_one, h, List.flatMap_append];simp
theorem map_nextB {α β : Type} (f : α -> β) {ws : List α} {i : Nat} {x : α} (h : ws[i]? = some x) : (ws.take (i + 1)).map f = (ws.take i).map f ++ [f x] := by
 rw [List.take_add_one, h, List.map_append];rfl
end
section
open Go.RowKit
def UnitsR (w : World) (B : Nat) (A : Option Addr) (n : Nat) (U : List (ByteArray × List Int)) : Prop :=
 U.length = n /\ (0 < n -> ∃ ad, A = some ad /\ ad.block < B /\ ∀ k x, U[k]? = some x -> w.cell? (ad.add (k * 2)) = some (.string x.1) /\
  ∃ A' n' c', w.cell? (ad.add (k * 2 + 1)) = some (.slice A' n' c') /\ Reads w B 1 A' n' (x.2.map (.int .i64)))
theorem UnitsR.below {w w' : World} {B : Nat} {A : Option Addr} {n : Nat} {U : List (ByteArray × List Int)} (h : UnitsR w B A n U) (hb : Below B w w') : UnitsR w' B A n U :=
 ⟨h.1, fun hn => by
  obtain ⟨ad, e, hlt, hc⟩ := h.2 hn;refine ⟨ad, e, hlt, fun k x hx => ?_⟩;obtain ⟨h1, A', n', c', h2, h3⟩ := hc k x hx;exact ⟨(hb.cell (by rw [block_of_add]; exact hlt)).trans h1, A', n', c', (hb.cell (by rw [block_of_add]; exact hlt)).trans h2, h3.below hb⟩⟩
theorem UnitsR.more {w : World} {B B' : Nat} {A : Option Addr} {n : Nat} {U : List (ByteArray × List Int)} (h : UnitsR w B A n U) (hB : B <= B') : UnitsR w B' A n U :=
 ⟨h.1, fun hn => by
  obtain ⟨ad, e, hlt, hc⟩ := h.2 hn;refine ⟨ad, e, by omega, fun k x hx => ?_⟩;obtain ⟨h1, A', n', c', h2, h3⟩ := hc k x hx;exact ⟨h1, A', n', c', h2, h3.more hB⟩⟩
def graph (U : List (ByteArray × List Int)) (i : Nat) : ByteArray := (U.getD i (⟨#[]⟩, [])).1
def usegs (U : List (ByteArray × List Int)) (i : Nat) : List Int := (U.getD i (⟨#[]⟩, [])).2
theorem UnitsR.at_ {w : World} {B : Nat} {A : Option Addr} {n k : Nat} {U : List (ByteArray × List Int)} (h : UnitsR w B A n U) (hk : k < n) :
  ∃ ad A' n' c', A = some ad /\ ad.block < B /\ w.cell? (ad.add (k * 2)) = some (.string (graph U k)) /\ w.cell? ⟨(ad.add (k * 2)).block, (ad.add (k * 2)).off + 1, none⟩ = some (.slice A' n' c') /\
   w.cell? (ad.add (k * 2 + 1)) = some (.slice A' n' c') /\ w.cell? ((ad.add (k * 2)).add 1) = some (.slice A' n' c') /\ Reads w B 1 A' n' ((usegs U k).map (.int .i64)) := by
 obtain ⟨ad, e, hlt, hc⟩ := h.2 (by omega);have hl : k < U.length := by rw [h.1]; exact hk
 obtain ⟨h1, A', n', c', h2, h3⟩ := hc k U[k] (List.getElem?_eq_getElem hl);have g1 : graph U k = U[k].1 := by simp [graph, List.getD, hl]
 have g2 : usegs U k = U[k].2 := by simp [usegs, List.getD, hl]
 have h4 : w.cell? ((ad.add (k * 2)).add 1) = some (.slice A' n' c') := by rw [add_of_add]; exact h2
 exact ⟨ad, A', n', c', e, hlt, by rw [g1]; exact h1, field_at (by omega) h4, h2, h4, by rw [g2]; exact h3⟩
structure UBox (w wr : World) (SA : Option Addr) (sn sc : Nat) (ad : Addr) (n c : Nat) (g : ByteArray) (A' : Option Addr) (n' c' : Nat) : Prop where
 inv : wr.cell? ⟨w.heap.size, 0, none⟩ = some (.slice SA sn sc)
 units : wr.cell? ⟨w.heap.size + 1, 1, none⟩ = some (.slice (some ad) n c)
 graph : wr.cell? ⟨w.heap.size + 1 + 1, 0, none⟩ = some (.string g)
 segs : wr.cell? ⟨w.heap.size + 1 + 1, 1, none⟩ = some (.slice A' n' c')
theorem UBox.on {w wr w' : World} {SA : Option Addr} {sn sc : Nat} {ad : Addr} {n c : Nat} {g : ByteArray} {A' : Option Addr} {n' c' : Nat} (h : UBox w wr SA sn sc ad n c g A' n' c') (hb : Below (w.heap.size + 1 + 1 + 1) wr w') : UBox w w' SA sn sc ad n c g A' n' c' :=
 ⟨(hb.cell (by show w.heap.size < _; omega)).trans h.inv, (hb.cell (by show w.heap.size + 1 < _; omega)).trans h.units, (hb.cell (by show w.heap.size + 1 + 1 < _; omega)).trans h.graph, (hb.cell (by show w.heap.size + 1 + 1 < _; omega)).trans h.segs⟩
theorem UBox.drewN {w wr : World} {SA : Option Addr} {sn sc : Nat} {ad : Addr} {n c : Nat} {g : ByteArray} {A' : Option Addr} {n' c' : Nat} (h : UBox w wr SA sn sc ad n c g A' n' c') (k : Nat) : UBox w (wr.drewN k) SA sn sc ad n c g A' n' c' := ⟨h.inv, h.units, h.graph, h.segs⟩
structure CBox (w wr : World) (SA : Option Addr) (sn sc : Nat) (nm : ByteArray) (UA : Option Addr) (un uc : Nat) (LA : Option Addr) (ln lc : Nat) : Prop where
 inv : wr.cell? ⟨w.heap.size, 0, none⟩ = some (.slice SA sn sc)
 name : wr.cell? ⟨w.heap.size + 1, 0, none⟩ = some (.string nm)
 units : wr.cell? ⟨w.heap.size + 1, 1, none⟩ = some (.slice UA un uc)
 letters : wr.cell? ⟨w.heap.size + 1, 2, none⟩ = some (.slice LA ln lc)
theorem CBox.on {w wr w' : World} {SA : Option Addr} {sn sc : Nat} {nm : ByteArray} {UA : Option Addr} {un uc : Nat} {LA : Option Addr} {ln lc : Nat} (h : CBox w wr SA sn sc nm UA un uc LA ln lc) (hb : Below (w.heap.size + 1 + 1) wr w') : CBox w w' SA sn sc nm UA un uc LA ln lc :=
 ⟨(hb.cell (by show w.heap.size < _; omega)).trans h.inv, (hb.cell (by show w.heap.size + 1 < _; omega)).trans h.name, (hb.cell (by show w.heap.size + 1 < _; omega)).trans h.units, (hb.cell (by show w.heap.size + 1 < _; omega)).trans h.letters⟩
theorem RowsR.up {w : World} {B B' : Nat} {A : Option Addr} {n : Nat} {L : List (List ByteArray)} (h : RowsR w B A n L) (hB : B <= B') : RowsR w B' A n L := by
 obtain ⟨xs, hr, hl, hi⟩ := h;refine ⟨xs, hr.more hB, hl, fun i l hil => ?_⟩;obtain ⟨A', n', c', hx', hs⟩ := hi i l hil;exact ⟨A', n', c', hx', Reads.more hs hB⟩
end
section
open Go.RowKit Go.ChangeShapes Go.WideShapes Go.ChangeAt Go.Deep Go.Joins Ru Lay
instance instHvOpen : Inhabited Hv := ⟨{ toHt := ⟨0, 0, [], ⟨#[]⟩, []⟩, la := none, ln := 0, lc := 0, ra := none, rn := 0, rc := 0 }⟩
section
variable {H : Type} {enc : TypeId × Value → H} {w : World} {spare : Nat → Bool} {held : Bool} {fuel : Nat} {v : Value} {x : DataW H × List MemPlace}
end
instance instNtOpen : Inhabited Nt := ⟨nt0⟩
instance instTiOpen : Inhabited Ti := ⟨ti0⟩
theorem wf_i64 {x : Int} (h : (Lit.int .i64 x).wf = true) : -9223372036854775808 <= x /\ x <= 9223372036854775807 := by
 unfold Lit.wf at h;rw [Bool.and_eq_true, decide_eq_true_eq, decide_eq_true_eq] at h;have h1 : IntKind.i64.min = -9223372036854775808 := by decide
 have h2 : IntKind.i64.max = 9223372036854775807 := by decide
 rw [h1, h2] at h;exact h
section
variable {H : Type} {enc : TypeId × Value → H} {w : World} {spare : Nat → Bool} {held : Bool} {fuel : Nat} {v : Value} {x : DataW H × List MemPlace}
end
end
section
open Go.RowKit Ru Lay
open Go.Maps (Keyed)
theorem laidOutM : laidOutB Tryz.prog = true := by kernel_rfl
theorem refKeyed : Keyed Tryz.prog 24 := Keyed.of_law (deep_law_laid laidOutM (m := 2) (by omega) (of_decide_eq_true (by kernel_rfl)) (by kernel_rfl) (by kernel_rfl))
def refLit (r : Rf) : Lit := .string (keyBytes [.int .i64 r.1, .int .i64 r.2])
theorem ref_key {r : Rf} (h : RfOk r) : keyOf Tryz.prog 24 (.agg #[.int .i64 r.1, .int .i64 r.2]) = some (refLit r) := by
 have hkt : Tryz.prog.keyType 24 = true := by kernel_rfl
 have hc : Tryz.prog.cellsOf 24 = 2 := by kernel_rfl
 have hci : Tryz.prog.cellsOf 3 = 1 := by kernel_rfl
 obtain ⟨m, hm⟩ : ∃ m, Tryz.prog.types.size = m + 1 := ⟨Tryz.prog.types.size - 1, by kernel_rfl⟩;unfold keyOf;simp only [Tryz.underlying24];rw [if_pos (by simp [hkt, Value.formed, Tryz.underlying24, hc]), hm];unfold Program.keyLits;simp only [Tryz.underlying24, Value.cells];simp [hc, hci, Program.keyLits, Tryz.underlying3, h.1, h.2, refLit]
theorem refLit_inj {a b : Rf} (ha : RfOk a) (hb : RfOk b) (h : refLit a = refLit b) : a = b := by
 have h1 := ref_key ha;have h2 := ref_key hb;rw [<- h] at h2;have h3 := refKeyed.inj h1 h2;have h4 := congrArg (fun v => match v with | Value.agg xs => xs.toList | _ => []) h3;simp at h4
 exact Prod.ext h4.1 h4.2
theorem refLit_key {r : Rf} (h : RfOk r) : WideAt.IsKeyLit (refLit r) := refKeyed.key (ref_key h)
theorem map_zero (w : World) : (zeroValue 3).run Tryz.prog w = .ok (.int .i64 0) w := by kernel_rfl
def NumM (w : World) (b : Nat) (out : List Rf) : Prop :=
 ∃ D : DataW Unit, w.ownsMap Tryz.prog 24 (plainElem Tryz.prog 3) b out.length D /\ Maps.IsMap D /\ ∀ r, RfOk r -> D.atKey (refLit r) (.lit (.int .i64 0)) = .lit (.int .i64 (numR out r))
theorem NumM.made (w : World) : NumM (w.alloc (.map #[] 0)) w.heap.size [] :=
 ⟨.map [], World.ownsMap_made _ _ _ _, Maps.isMap_empty, fun r _ => by unfold numR idxR; simp [DataW.atKey]⟩
theorem NumM.lt {w : World} {b : Nat} {out : List Rf} (h : NumM w b out) : b < w.heap.size := by obtain ⟨D, h1, _⟩ := h; exact h1.lt
theorem NumM.kept {w w' : World} {b : Nat} {out : List Rf} {row : Option Nat} (h : NumM w b out) (hg : w.grownBy w' row) (hne : some b ≠ row) : NumM w' b out := by
 obtain ⟨D, h1, h2, h3⟩ := h;exact ⟨D, h1.kept hg hne, h2, h3⟩
theorem NumM.alloc {w : World} {b : Nat} {out : List Rf} (h : NumM w b out) (o : Obj) : NumM (w.alloc o) b out := h.kept (World.grownBy_alloc w o none) (by simp)
theorem NumM.on {w w' : World} {b : Nat} {out : List Rf} (h : NumM w b out) (hb : Below w.heap.size w w') : NumM w' b out := by
 obtain ⟨D, ⟨es, ck, h1, h2, h3, h4⟩, h5, h6⟩ := h;have hlt := (Array.getElem?_eq_some_iff.1 h1).1;exact ⟨D, ⟨es, ck, (hb.block b hlt).trans h1, h2, h3, h4⟩, h5, h6⟩
theorem wpList_lookup_num {ops : Array Oper} {rest : List Oper} {o : Oper} {a : Act} {Q : Exit -> Act -> World -> Prop} (w : World) (hg : o.guard = none) (m x : Operand) (hop : o.op = Op.lookup 68 m x false)
  (b : Nat) (out : List Rf) (hm : a.eval m = .map (some b)) (hN : NumM w b out) (r : Rf) (hr : RfOk r) (hx : a.eval x = .agg #[.int .i64 r.1, .int .i64 r.2])
  (hK : wpList Tryz.prog ops Q rest (a.put o.dst (.int .i64 (numR out r))) w) : wpList Tryz.prog ops Q (o :: rest) a w := by
 obtain ⟨D, h1, h2, h3⟩ := hN;refine wpList_lookup_own_int w hg m x 68 hop 24 3 .i64 refKeyed Tryz.underlying68 Tryz.underlying3 (map_zero w) b out.length D hm h1 _ (refLit r) hx (ref_key hr) fun c hc _ => ?_
 rw [h3 r hr] at hc;injection hc with hc
 injection hc with _ hc
 rw [<- hc];exact hK
theorem numR_wf {out : List Rf} {r : Rf} (h : out.length <= 1000000000) : (Lit.int .i64 ((out.length : Int) + 1)).wf = true := by
 unfold Lit.wf;rw [Bool.and_eq_true, decide_eq_true_eq, decide_eq_true_eq];have h1 : IntKind.i64.min = -9223372036854775808 := by decide
 have h2 : IntKind.i64.max = 9223372036854775807 := by decide
 rw [h1, h2];omega
theorem wpList_update_num {ops : Array Oper} {rest : List Oper} {o : Oper} {a : Act} {Q : Exit -> Act -> World -> Prop} (w : World) (hg : o.guard = none) (m x v : Operand) (hop : o.op = Op.mapUpdate 68 m x v)
  (b : Nat) (out : List Rf) (hm : a.eval m = .map (some b)) (hN : NumM w b out) (r : Rf) (hr : RfOk r) (hno : r ∉ out) (hlen : out.length <= 1000000000) (hx : a.eval x = .agg #[.int .i64 r.1, .int .i64 r.2]) (z : Int) (hz : z = (out.length : Int) + 1) (hv : a.eval v = .int .i64 z)
  (hK : ∀ w', NumM w' b (out ++ [r]) -> w.grownBy w' (some b) -> wpList Tryz.prog ops Q rest (a.put o.dst undef) w') : wpList Tryz.prog ops Q (o :: rest) a w := by
 obtain ⟨D, h1, h2, h3⟩ := hN;refine wpList_mapUpdate_own w hg m x v 68 hop 24 3 refKeyed Tryz.underlying68 (plainElem Tryz.prog 3) b out.length D hm h1 (by unfold maxLen; omega) _ _ (refLit r) hx hv (ref_key hr) (.lit (.int .i64 z)) [] (plainElem_int Tryz.underlying3 (by rw [hz]; exact numR_wf (r := r) hlen)) fun w' h4 h5 => hK w' ⟨_, by rw [List.length_append]; exact h4, h2.put _ _, fun q hq => ?_⟩ h5
 by_cases e : q = r
 ·subst e;rw [Maps.atKey_put_same h2 (refLit_key hr), numR_new hno, hz]
 ·rw [Maps.atKey_put_other (fun h => e (refLit_inj hq hr h)), h3 q hq, numR_other e]
end
end Go.Proofs.YthcabnfcgjnlnaaGreatDoor
