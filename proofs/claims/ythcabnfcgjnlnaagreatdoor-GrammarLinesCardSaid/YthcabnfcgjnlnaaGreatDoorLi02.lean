import Derived.Test.YthcabnfcgjnlnaaGreatDoorB05
import Derived.Test.YthcabnfcgjnlnaaGreatDoorLi01
import Derived.Lib.MinMax
import Derived.Deep.RegionWith
import Derived.Deep.DrawnRows
import Derived.Deep.LoopGhost
set_option linter.unusedVariables false
set_option linter.unusedSimpArgs false
namespace Go.Proofs.YthcabnfcgjnlnaaGreatDoor
section
open Go.RowKit Go.Shelf Ru Lay
set_option maxHeartbeats 1000000 in
theorem refWidth_any (s : ByteArray) (w : World) (hs : s.size <= 1099511627) :
  Calls Tryz.prog 98 #[.string s] w fun e w' => e = .returned (.int .i64 (widB s : Int)) /\ Below w.heap.size w w' := by
 have HP := hI (points02_any s w (by omega));have HC := hI fun W => refClusters_any s W (by omega)
 obtain ⟨o, ho⟩ : ∃ o, points s.data.toList = o := ⟨_, rfl⟩;rw [ho] at HP
 cases o with
 | none =>
  have HW : Hid ((s.size : Int) = (widB s : Int)) := by show _ = _; rw [widB_none ho]
  clear ho;go_enter Tryz.func98, Tryz.ntmps98
  go_wp2_with fail
  refine HP.out.mono ?_;intro e w1 hpp;obtain ⟨A1, n1, c1, rfl, _, _, hb⟩ := hpp.val;have HB1 : Hid (Below w.heap.size w w1) := hb;clear hpp hb;go_wp2;go_ret;exact ⟨ret_i64 HW.out, HB1.out⟩
 | some d =>
  have HW : Hid (((clusB s.data.toList).length : Int) = (widB s : Int)) := by show _ = _; rw [widB_some ho]
  clear ho;go_enter Tryz.func98, Tryz.ntmps98
  go_wp2_with fail
  refine HP.out.mono ?_;intro e w1 hpp;obtain ⟨A1, n1, c1, rfl, _, _, hb⟩ := hpp.val;have HB1 : Hid (Below w.heap.size w w1) := hb;clear hpp hb;go_wp2_with fail
  refine (HC.out _).mono ?_;rintro e w2 ⟨v, rfl, hown, hb⟩;obtain ⟨A2, c2, rfl, _, _, _⟩ := own_form hown;have HB2 : Hid (Below w.heap.size w w2) := HB1.out.trans (hb.mono HB1.out.size);clear hown hb;go_wp2;go_ret;exact ⟨ret_i64 HW.out, HB2.out⟩
theorem pad_go {s : ByteArray} {n : Int} {k j : Nat} (hk : widB s = k) (h1 : (k : Int) + j = n) (h2 : n <= 4000) : s ++ strL (sp j) = padB s n := by
 refine ba_ext ?_;rw [app_data, strL_data];unfold padB;rw [strL_data];unfold pad;rw [show wid s.data.toList = k from hk];by_cases h : (k : Int) < n
 ·rw [if_pos ⟨h, h2⟩, show n - (k : Int) = (j : Int) by omega];rfl
 ·rw [if_neg (fun hh => h hh.1), show j = 0 by omega, sp_zero, List.append_nil]
theorem sp_next (s : ByteArray) (j : Nat) : s ++ strL (sp j) ++ ⟨#[32]⟩ = s ++ strL (sp (j + 1)) := by
 refine ba_ext ?_;rw [app_data, app_data, app_data, strL_data, strL_data, sp_snoc, List.append_assoc]
set_option maxHeartbeats 1000000 in
theorem refPad_any (s : ByteArray) (n : Int) (w : World) (hs : s.size <= 1099511627) :
    Calls Tryz.prog 99 #[.string s, .int .i64 n] w fun e w' => e = .returned (.string (padB s n)) /\ Below w.heap.size w w' := by
  have HW := hI (refWidth_any s w hs);have hwl := widB_le s;obtain ⟨k, hk⟩ : ∃ k, widB s = k := ⟨_, rfl⟩;have HK := hI hk;rw [hk] at HW hwl;clear hk;by_cases h2 : n <= 4000
  · have hd2 : decide (4000 < n) = false := decide_eq_false (by omega)
    have hd3 : ¬ (4000 < n) := by omega
    go_enter Tryz.func99, Tryz.ntmps99
    go_wp2_with fail
    refine HW.out.mono ?_;rintro e w1 ⟨rfl, hb⟩;have HB1 : Hid (Below w.heap.size w w1) := hb;clear hb;go_wp2_with fail
    go_loop [0, 5] (fun vs vi => ∃ j : Nat, vi = .int .i64 ((k : Int) + (j : Int)) /\ vs = .string (s ++ strL (sp j)) /\ (j = 0 ∨ (k : Int) + j <= n)) (fun _ vi => (4001 - intOf vi).toNat)
    case atStart => exact ⟨0, by simp, by rw [sp_zero]; exact congrArg Value.string (ba_ext (by rw [app_data, strL_data, List.append_nil])), .inl rfl⟩
    case round =>
      obtain ⟨j, rfl, rfl, hj⟩ := hrel;by_cases hlt : (k : Int) + (j : Int) < n
      · have HN := hI (sp_next s j)
        have hsz : (s ++ strL (sp j)).size <= s.size + 4000 := by
          rw [Lib.size_eq, app_data, List.length_append, strL_data, sp_len, <- Lib.size_eq];omega
        obtain ⟨x, hx⟩ : ∃ x, s ++ strL (sp j) = x := ⟨_, rfl⟩;rw [hx] at HN hsz |-;clear hx
        have hcat : x.size + (⟨#[32]⟩ : ByteArray).size <= 9223372036854775807 := by
          have : (⟨#[32]⟩ : ByteArray).size = 1 := rfl;omega
        go_wp2;go_round
        case rel => exact ⟨j + 1, by push_cast; first | rfl | (congr 1; omega), by rw [HN.out], .inr (by push_cast; omega)⟩
        case measure => simp [intOf]; omega
      · have HRES : Hid (s ++ strL (sp j) = padB s n) := by
          show _ = _;by_cases he : (k : Int) + j = n
          · exact pad_go HK.out he h2
          · rw [padB_id (.inr (by rw [HK.out]; omega)), show j = 0 by omega, sp_zero]
            exact ba_ext (by rw [app_data, strL_data, List.append_nil])
        go_wp2;go_ret;exact ⟨ret_str HRES.out, HB1.out⟩
  · have hd2 : decide (4000 < n) = true := decide_eq_true (by omega)
    have hd3 : 4000 < n := by omega
    have HRES : Hid (s = padB s n) := (padB_id (.inl (by omega))).symm;go_enter Tryz.func99, Tryz.ntmps99
    go_wp2;go_ret;exact ⟨ret_str HRES.out, Below.refl _ _⟩
end
section
open Go.RowKit Ru Lay
set_option maxHeartbeats 400000 in
theorem cell_any (A : Option Addr) (n c : Nat) (r : List ByteArray) (k : Nat) (w : World) (hr : SR w w.heap.size A n r) (hn : n <= 9223372036854775807) (hk : k <= 9223372036854775807) :
  Calls Tryz.prog 75 #[.slice A n c, .int .i64 (k : Int)] w fun e w' => e = .returned (.string (cellB r k)) /\ w = w' := by
 have hln := hr.len;by_cases hlt : k < n
 ·obtain ⟨ad, x, rfl, _, hx, hcx⟩ := hr.at_ hlt;have HX : Hid (x = cellB r k) := (cellB_some hx).symm;clear hx hln;have hkz : (k : Int) < (n : Int) := by omega
  go_enter Tryz.func75, Tryz.ntmps75
  go_wp2;go_ret;exact ⟨ret_str HX.out, rfl⟩
 ·have HX : Hid (⟨#[]⟩ = cellB r k) := (cellB_none (by omega)).symm;clear hln;have hkz : ¬ (k : Int) < (n : Int) := by omega
  go_enter Tryz.func75, Tryz.ntmps75
  go_wp2;go_ret;exact ⟨ret_str HX.out, rfl⟩
end
section
open Go.RowKit Ru Lay
attribute [local go_sem ↓] Go.wp_at_zero Go.wp_at_succ
theorem made_zeros (n : Nat) : (madeCells (Value.int .i64 0).cells (n * 1)).toList = intV (colsG n [] [] 0) := by
 unfold intV;rw [colsG_zero, List.map_map];refine List.ext_getElem? fun k => ?_
 by_cases hk : k < n
 ·rw [List.getElem?_map, List.getElem?_range hk];simp [madeCells, hk, Value.cells, colAt, Nat.mod_one]
 ·have h1 : (madeCells (Value.int .i64 0).cells (n * 1)).toList.length = n := by rw [Array.length_toList, size_madeCells, Nat.mul_one]
  rw [List.getElem?_eq_none (by rw [h1]; omega), List.getElem?_eq_none (by simp; omega)]
def colsN (m : Nat) (L : List (List ByteArray)) : List Int := (List.range m).map fun k => (colAt L k : Int)
theorem colsN_zero (m : Nat) (L : List (List ByteArray)) (r : List ByteArray) : colsG m L r 0 = colsN m L := colsG_zero m L r
theorem colsN_end {m : Nat} {L : List (List ByteArray)} {r : List ByteArray} {j : Nat} (h : r.length <= j) : colsG m L r j = colsN m (L ++ [r]) := colsG_end h
set_option maxHeartbeats 4000000 in
set_option maxRecDepth 100000 in
theorem refColumns_any (A : Option Addr) (n c : Nat) (L : List (List ByteArray)) (w : World) (hL : RowsC w w.heap.size A n L) (hz : SzL L) :
    Calls Tryz.prog 74 #[.slice A n c] w fun e w' => ∃ v, e = .returned v /\ OwnI w' w.heap.size v (cols L) /\ Below w.heap.size w w' := by
  have HL := hI hL;have HZ := hI hz;have HLN := hI hL.len;have hn : n <= 100000 := by have := hL.len; have := hz.1; omega
  clear hL hz;obtain ⟨i0, hinf, hz0, hz1, hz2⟩ := info_parts info_int2;go_enter Tryz.func74, Tryz.ntmps74
  go_wp2_with fail
  go_loop [3, 4] (fun v3 v4 => ∃ i : Nat, i <= n /\ v4 = .int .i64 i /\ v3 = .int .i64 (nmax (L.take i) : Int)) (fun _ v4 => n - (intOf v4).toNat)
  case atStart => exact ⟨0, Nat.zero_le _, rfl, rfl⟩
  case round =>
    obtain ⟨i, hi, rfl, rfl⟩ := hrel;by_cases hlt : i < n
    · have hiz : (i : Int) < (n : Int) := by omega
      obtain ⟨ad, r, RA, rn, rc, rfl, hadb, hr, hcr, hsr, _, _⟩ := HL.out.at_ hlt
      have HNX : Hid (max (nmax (L.take i) : Int) (rn : Int) = (nmax (L.take (i + 1)) : Int)) := by
        show _ = _;rw [take_atG hr, nmax_snoc, hsr.len];omega
      clear hr hsr;go_wp2;go_round
      case rel => exact ⟨i + 1, by omega, by go_num, by rw [HNX.out]⟩
      case measure => simp [intOf]; omega
    · obtain rfl : n = i := by omega
      have hjz : ¬ (n : Int) < (n : Int) := by omega
      have hNM := HZ.out.nmax;have e1 : L.take n = L := List.take_of_length_le (by rw [HLN.out]; exact Nat.le_refl _);rw [e1];obtain ⟨m, hm⟩ : ∃ m, nmax L = m := ⟨_, rfl⟩;have HM := hI hm;rw [hm] at hNM |-;clear hm e1;go_wp2_with (at_make; refine wpList_make_full _ rfl (.tmp 21) (.tmp 21) 32 rfl w.heap.size 3 i0 (.int .i64 0) 1 Tryz.underlying32 hinf hz0 hz1 .i64 .i64 _ _ m rfl rfl rfl rfl (by rw [hz2]; omega) (by unfold maxLen; omega) (Nat.le_refl _) ?_; intro w1 hown1 hgr1)
      rw [made_zeros] at hown1
      have HO1 : Hid (OwnI w1 w.heap.size (.slice (some ⟨w.heap.size, 0, none⟩) m m) (colsN m (L.take 0))) := by
        show World.ownsRow _ _ _ _ _ _ _;rw [List.take_zero, <- colsN_zero m [] [], colsG_len];exact hown1
      have HB1 : Hid (Below w.heap.size w w1) := (Below.refl _ w).grown hgr1 (Nat.le_refl _) (fun r e => by cases e);obtain ⟨vo, hvo⟩ : ∃ vo, Value.slice (some ⟨w.heap.size, 0, none⟩) m m = vo := ⟨_, rfl⟩;rw [hvo] at HO1 |-;clear hown1 hgr1 hvo;go_loopw [6, 7] (fun v6 _ wr => ∃ i : Nat, i <= n /\ v6 = .int .i64 i /\ Hid (OwnI wr w.heap.size vo (colsN m (L.take i))) /\ Hid (Below w.heap.size w wr)) (fun v6 _ _ => n - (intOf v6).toNat)
      case atStart => exact ⟨0, Nat.zero_le _, rfl, HO1, HB1⟩
      case round =>
        clear HO1 HB1;obtain ⟨i, hi, rfl, HO, HB⟩ := hrel;obtain ⟨w0, hw0⟩ : ∃ w0, wr = w0 := ⟨_, rfl⟩;rw [hw0] at HO HB |-;clear hw0;by_cases hlt : i < n
        · have hiz : (i : Int) < (n : Int) := by omega
          obtain ⟨ad, r, RA, rn, rc, rfl, hadb, hr, hcr, hsr, _, _⟩ := HL.out.at_ hlt;have HCR : Hid (∀ W, Below w.heap.size w W -> W.cell? (ad.add i) = some (.slice RA rn rc)) := fun W hW => (hW.cell (by rw [block_of_add]; exact hadb)).trans hcr
          have HSR := hI hsr;have HRN : Hid (r.length = rn) := hsr.len;have hrn : rn <= 100000 := by have := HRN.out; have := (HZ.out.row hr).1; omega
          have HSZ := hI (HZ.out.row hr);obtain ⟨Lt, hLt⟩ : ∃ Lt, L.take i = Lt := ⟨_, rfl⟩;have HNX : Hid (L.take (i + 1) = Lt ++ [r]) := by show _ = _; rw [take_atG hr, hLt]
          have HRM : Hid (rn <= m) := by show _ <= _; rw [<- HM.out, <- HRN.out]; exact le_nmax (List.mem_of_getElem? hr)
          rw [hLt, <- colsN_zero m Lt r] at HO;have HI := hI hlt;have hix : (i : Int) < (n : Int) := hiz;have hiA : (0 : Int) <= (i : Int) := by omega
          clear hcr hsr hr hLt;go_wp2_with fail
          go_loopw [7] (fun v7 w1 => ∃ j : Nat, j <= m /\ v7 = .int .i64 j /\ Hid (OwnI w1 w.heap.size vo (colsG m Lt r j)) /\ Hid (Below w.heap.size w w1)) (fun v7 _ => m - (intOf v7).toNat)
          case atStart => exact ⟨0, Nat.zero_le _, rfl, HO, HB⟩
          case round =>
            clear HO HB;obtain ⟨j, hj, rfl, HO2, HBW⟩ := hrel;obtain ⟨WW, hWW⟩ : ∃ WW, WW = wr := ⟨_, rfl⟩;rw [<- hWW] at HO2 HBW |-;clear hWW;by_cases hjl : j < m
            · have HJM : Hid (j < m) := hjl
              obtain ⟨s, hs⟩ : ∃ s, cellB r j = s := ⟨_, rfl⟩;have hss := HSZ.out.cellB j;have HCE := hI fun W (hb : Below w.heap.size w W) => cell_any RA rn rc r j W (SR.on HSR.out hb) (by omega) (by omega)
              have HWD := hI fun W => refWidth_any s W (by rw [<- hs]; omega)
              have HSC := hI hs;rw [hs] at HCE hss;have hcr0 := HCR.out WW HBW.out;clear hs;have hlx : (colsG m Lt r j)[j]? = some (colAt Lt j : Int) := by rw [colsG_at HJM.out, if_neg (by omega)]
              obtain ⟨g, cap, hv, hg1, hgl, hcl, hfl⟩ := HO2.out.at_ hlx;have hml : (colsG m Lt r j).length = m := colsG_len _ _ _ _;rw [hml] at hv;first | subst hv | cases hv
              have HX : Hid ((colsG m Lt r j).set j (max (colAt Lt j : Int) (widB s : Int)) = colsG m Lt r (j + 1)) := by
                have h0 := colsG_set (n := m) (L := Lt) (r := r) (j := j) HJM.out;rw [HSC.out] at h0;exact h0
              obtain ⟨x, hx⟩ : ∃ x : Int, (colAt Lt j : Int) = x := ⟨_, rfl⟩;rw [hx] at hcl HX;obtain ⟨y, hy⟩ : ∃ y : Int, (widB s : Int) = y := ⟨_, rfl⟩;rw [hy] at HWD HX;have hjA : (0 : Int) <= (j : Int) := by omega
              have hjm := HJM.out;have hjmz : (j : Int) < (m : Int) := by omega
              have HML := hI hml;clear hlx hml hx hy
              have eaddr : (⟨g, 0, none⟩ : Addr).add j = ⟨g, j, none⟩ := by
                unfold Addr.add;split
                · rename_i h; simp [h]
                · simp
              go_wp2_with fail
              go_region_with ((first
                | (go_at_call 75; refine (HCE.out _ (HBW.out.drew)).mono ?_; rintro e w2 ⟨rfl, rfl⟩)
                | (go_at_call 98; refine (HWD.out _).mono ?_; rintro e w3 ⟨rfl, hb3⟩
                   have hl3 : w3.cell? ⟨g, j, none⟩ = some (.int .i64 x) := (hb3.cell hgl).trans hcl;have hf3 : w3.frozen? ⟨g, j, none⟩ = false := (hb3.frozen hgl).trans hfl)))
              all_goals
                have HBB : Hid (Below WW.heap.size WW w3) := (Below.refl _ WW).drew.trans hb3;have hown3 := HO2.out.on HBB.out;have hst := hown3.set HML.out.symm j (max x y);rw [HX.out] at hst;have HO4 := hI hst.1;have HB4 : Hid (Below w.heap.size w (w3.setCell ⟨g, j, none⟩ (.int .i64 (max x y)))) := (HBW.out.trans (HBB.out.mono HBW.out.size)).trans hst.2;clear hst hown3 hb3 hl3 hf3;go_wp2;go_roundw
                case rel => exact ⟨j + 1, by omega, by go_num, HO4, HB4⟩
                case measure => simp [intOf]; omega
            · obtain rfl : m = j := by omega
              have hjz : ¬ (m : Int) < (m : Int) := by omega
              have hcc : colsG m Lt r m = colsN m (L.take (i + 1)) := by rw [HNX.out]; exact colsN_end (by have := HRN.out; have := HRM.out; omega)
              have h0 := HO2.out;rw [hcc] at h0;have HO5 := hI h0;clear hcc h0;have hi1 : i + 1 <= n := HI.out;go_wp2;go_roundw
              case rel => exact ⟨i + 1, hi1, by go_num, HO5, HBW⟩
              case measure => have := HI.out; simp [intOf]; omega
        · obtain rfl : n = i := by omega
          have hjz : ¬ (n : Int) < (n : Int) := by omega
          have h0 := HO.out;rw [List.take_of_length_le (by rw [HLN.out]; exact Nat.le_refl _)] at h0;have h1 : colsN m L = cols L := by rw [<- HM.out]; rfl
          rw [h1] at h0;have HO5 := hI h0;clear h0 h1;go_wp2;go_ret;exact ⟨_, rfl, HO5.out, HB.out⟩
theorem trimR_blank (l : List UInt8) : trimR (l ++ [32]) = trimR l := by
 unfold trimR;rw [List.reverse_append, List.reverse_singleton, List.singleton_append, List.dropWhile_cons_of_pos (p := fun b : UInt8 => b == 32) (by rfl)]
theorem trimR_none (l : List UInt8) {b : UInt8} (h : (b == 32) = false) : trimR (l ++ [b]) = l ++ [b] := by
 unfold trimR;rw [List.reverse_append, List.reverse_singleton, List.singleton_append, List.dropWhile_cons_of_neg (p := fun b : UInt8 => b == 32) (by rw [h]; simp)];simp
theorem ba_snoc {t : ByteArray} {m : Nat} (h : t.size = m + 1) (hm : m < t.size) : t.data.toList = (t.extract 0 m).data.toList ++ [t[m]] := by
 have h1 : t.data.toList.length = m + 1 := by rw [<- Lib.size_eq]; exact h
 have h2 : t.data.toList = t.data.toList.take (m + 1) := by rw [List.take_of_length_le (by omega)]
 conv => lhs; rw [h2, List.take_succ_eq_append_getElem (by omega)]
 congr 1
 rw [Lib.extract_data];simp
set_option maxHeartbeats 1000000 in
theorem refTrim_any (s : ByteArray) (w : World) (hs : s.size <= 9223372036854775807) :
  Calls Tryz.prog 100 #[.string s] w fun e w' => e = .returned (.string (strL (trimR s.data.toList))) /\ w = w' := by
 go_enter Tryz.func100, Tryz.ntmps100
 go_wp2_with fail
 go_loopg [0] s.size (fun g v0 wr => ∃ t : ByteArray, v0 = .string t /\ t.size <= g /\ t.size <= s.size /\ Hid (trimR t.data.toList = trimR s.data.toList) /\ Hid (w = wr))
 case atStart => exact ⟨s, rfl, Nat.le_refl _, Nat.le_refl _, rfl, rfl⟩
 case round =>
  obtain ⟨t, rfl, hg, hts, HT, HW⟩ := hrel;by_cases h0 : 0 < t.size
  ·obtain ⟨m, hm⟩ : ∃ m, t.size = m + 1 := ⟨t.size - 1, by omega⟩;have hmt : m < t.size := by omega
   have HSN := hI (ba_snoc hm hmt);have hex : (t.extract 0 m).size = m := by rw [Lib.size_eq, Lib.extract_data]; simp; omega
   have hj1 : (t.size : Int) - 1 = (m : Int) := by omega
   have hj2 : IntKind.i64.wrap ((t.size : Int) - 1) = (m : Int) := by rw [hj1]; exact IntWalk.i64_in _ (by omega)
   have hj3 : wrap64 ((t.size : Int) - 1) = (m : Int) := by unfold wrap64; omega
   have hj4 : t.size - 1 = m := by omega
   have hmA : (0 : Int) <= (m : Int) := by omega
   have hmz : (m : Int) < (t.size : Int) := by omega
   have hmz2 : (m : Int) <= (t.size : Int) := by omega
   have hd0 : (0 : Int) < (t.size : Int) := by omega
   have HM := hI hm;clear hm;obtain ⟨b, hb⟩ : ∃ b, t[m] = b := ⟨_, rfl⟩;have HBT := hI hb;by_cases hbl : (b == 32) = true
   ·have hb32 : b = 32 := beq_iff_eq.1 hbl;have he : ((t[m].toNat : Int) == 32) = true := by rw [hb, hb32]; rfl
    have HT2 : Hid (trimR (t.extract 0 m).data.toList = trimR s.data.toList) := by
     show _ = _;rw [<- HT.out, HSN.out, hb, hb32, trimR_blank]
    have HEX := hI hex;clear hb hex hbl hb32;go_wp2;go_roundg m
    case measure => have := HM.out; omega
    case rel => exact ⟨_, rfl, Nat.le_of_eq HEX.out, by rw [HEX.out]; omega, HT2, HW⟩
   ·have hbl2 : (b == 32) = false := by simpa using hbl
    have he : ((t[m].toNat : Int) == 32) = false := by
     rw [hb];refine beq_eq_false_iff_ne.2 fun hh => ?_
     have : b = 32 := by
      refine UInt8.toNat_inj.1 ?_;have h7 : (32 : UInt8).toNat = 32 := rfl;omega
     rw [this] at hbl2
     cases hbl2
    have HR : Hid (t = strL (trimR s.data.toList)) := by
     show _ = _;refine ba_ext ?_;rw [strL_data, <- HT.out, HSN.out, hb, trimR_none _ hbl2]
    clear hb hex hbl hbl2;go_wp2;go_ret;exact ⟨ret_str HR.out, HW.out⟩
  ·have hd0 : ¬ (0 : Int) < (t.size : Int) := by omega
   have HR : Hid (t = strL (trimR s.data.toList)) := by
    show _ = _
    have h1 : t.data.toList = [] := by
     refine List.eq_nil_of_length_eq_zero ?_;rw [<- Lib.size_eq];omega
    refine ba_ext ?_;rw [strL_data, <- HT.out, h1];rfl
   go_wp2;go_ret;exact ⟨ret_str HR.out, HW.out⟩
set_option maxHeartbeats 4000000 in
set_option maxRecDepth 100000 in
theorem refAlign_any (A : Option Addr) (n c : Nat) (L : List (List ByteArray)) (w : World) (hL : RowsC w w.heap.size A n L) (hz : SzL L) :
  Calls Tryz.prog 76 #[.slice A n c] w fun e w' => ∃ v, e = .returned v /\ OwnS w' w.heap.size v (alignL L) /\ Below w.heap.size w w' := by
 have HL := hI hL;have HZ := hI hz;have HLN := hI hL.len;have hn : n <= 100000 := by have := hL.len; have := hz.1; omega
 have HCO := hI (refColumns_any A n c L w hL hz);have hnm := hz.nmax;clear hL hz;go_enter Tryz.func76, Tryz.ntmps76
 go_wp2_with fail
 refine HCO.out.mono ?_;rintro e wc ⟨v, rfl, hown, hb⟩;obtain ⟨CA, cc, rfl, _, _, hir⟩ := hown.form;rw [cols_len] at hir |-;have HCR := hI hir;have HBC := hI hb;obtain ⟨N, hN⟩ : ∃ N, nmax L = N := ⟨_, rfl⟩;have HN := hI hN;rw [hN] at hnm HCR |-;clear hir hb hown hN HCO;go_wp2_with fail
 go_loopw [3, 5] (fun v3 v5 wr => ∃ i : Nat, i <= n /\ v5 = .int .i64 i /\ Hid (OwnS wr wc.heap.size v3 ((L.take i).map fun r => lineL (cols L) r)) /\ Hid (Below wc.heap.size wc wr)) (fun _ v5 _ => n - (intOf v5).toNat)
 case atStart => exact ⟨0, Nat.zero_le _, rfl, (by rw [List.take_zero]; exact OwnS.nil _ _), Below.refl _ _⟩
 case round =>
  obtain ⟨i, hi, rfl, HO, HBR⟩ := hrel;obtain ⟨w0, hw0⟩ : ∃ w0, wr = w0 := ⟨_, rfl⟩;rw [hw0] at HO HBR |-;clear hw0;by_cases hlt : i < n
  ·have hiz : (i : Int) < (n : Int) := by omega
   have hiA : (0 : Int) <= (i : Int) := by omega
   obtain ⟨ad, r, RA, rn, rc, rfl, hadb, hr, hcr, hsr, _, _⟩ := HL.out.at_ hlt;have HCRW : Hid (∀ W, Below wc.heap.size wc W -> W.cell? (ad.add i) = some (.slice RA rn rc)) := fun W hW => ((HBC.out.trans (hW.mono HBC.out.size)).cell (by rw [block_of_add]; exact hadb)).trans hcr
   have HR := hI hr;have HSR := hI hsr;have HRN : Hid (r.length = rn) := hsr.len;have hrn : rn <= 100000 := by have := HRN.out; have := (HZ.out.row hr).1; omega
   have HSZ := hI (HZ.out.row hr);have HNX : Hid ((L.take (i + 1)).map (fun r => lineL (cols L) r) = ((L.take i).map fun r => lineL (cols L) r) ++ [lineL (cols L) r]) := by show _ = _; rw [take_atG hr, List.map_append]; rfl
   have hll : ((L.take i).map fun r => lineL (cols L) r).length <= i := by rw [List.length_map, List.length_take]; omega
   obtain ⟨ll, hlq⟩ : ∃ ll, ((L.take i).map fun r => lineL (cols L) r) = ll := ⟨_, rfl⟩;rw [hlq] at HO HNX hll;have HI := hI hlt;clear hcr hsr hr hlq;go_wp2_with fail
   have HBR0 := HBR;have HO0 := HO;go_loopw [6, 7] (fun v6 v7 wi => ∃ (k : Nat) (s : ByteArray), k <= N /\ v7 = .int .i64 k /\ v6 = .string s /\ Hid (s.data.toList = lineG (cols L) r k) /\ Hid (Below w0.heap.size w0 wi)) (fun _ v7 _ => N - (intOf v7).toNat)
   case atStart => exact ⟨0, ⟨#[]⟩, Nat.zero_le _, rfl, rfl, rfl, Below.refl _ _⟩
   case round =>
    obtain ⟨k, s, hk, rfl, rfl, HS, HBB⟩ := hrel;obtain ⟨wi, hwi⟩ : ∃ wi, wi = wr := ⟨_, rfl⟩;rw [<- hwi] at HBB |-;clear hwi;have hlk : s.size <= 10400100000 := by have := lineG_len (cols L) r HSZ.out k; rw [<- HS.out, <- Lib.size_eq] at this; omega
    by_cases hkl : k < N
    ·have hkz : (k : Int) < (N : Int) := by omega
     have hkA : (0 : Int) <= (k : Int) := by omega
     obtain ⟨cd, x, rfl, hcb, hx, hcx⟩ := HCR.out.at_ hkl
     obtain rfl : x = (colAt L k : Int) := by
      rw [cols_at (by rw [HN.out]; exact hkl)] at hx;exact (Option.some.inj hx).symm
     have HBI : Hid (Below wc.heap.size wc wi) := HBR.out.trans (HBB.out.mono HBR.out.size);have HBW : Hid (Below w.heap.size w wi) := HBC.out.trans (HBI.out.mono HBC.out.size);have hcq : ∀ p : BW wi, p.at_.cell? (cd.add k) = some (.int .i64 (colAt L k : Int)) := fun p => ((HBI.out.trans (p.bel.mono HBI.out.size)).cell (by rw [block_of_add]; exact hcb)).trans hcx
     have hcr0 : ∀ p : BW wi, p.at_.cell? (ad.add i) = some (.slice RA rn rc) := fun p => HCRW.out _ (HBI.out.trans (p.bel.mono HBI.out.size))
     obtain ⟨t, ht⟩ : ∃ t, cellB r k = t := ⟨_, rfl⟩;have hts := HSZ.out.cellB k
     have HCE : Hid (∀ p : BW wi, Calls Tryz.prog 75 #[.slice RA rn rc, .int .i64 (k : Int)] p.at_ fun e w' => e = .returned (.string t) /\ p.at_ = w') := fun p => by
      rw [<- ht];exact cell_any RA rn rc r k p.at_ (SR.on HSR.out (HBW.out.trans (p.bel.mono HBW.out.size))) (by omega) (by omega)
     rw [ht] at hts;have HPD := hI fun W => refPad_any t (colAt L k : Int) W (by omega)
     have hps := padB_size t (colAt L k : Int);have HT := hI ht;clear hx hcx ht;by_cases hk0 : 0 < k
     ·have hk0z : (0 : Int) < (k : Int) := by omega
      have hc1 : s.size + (⟨#[32]⟩ : ByteArray).size <= 9223372036854775807 := by
       have : (⟨#[32]⟩ : ByteArray).size = 1 := rfl;omega
      have hc2 : (s ++ ⟨#[32]⟩).size = s.size + 1 := by rw [Lib.size_eq, app_data, List.length_append, <- Lib.size_eq]; rfl
      have HNL : Hid ((s ++ ⟨#[32]⟩ ++ padB t (colAt L k : Int)).data.toList = lineG (cols L) r (k + 1)) := by
       show _ = lineG (cols L) r k ++ (if 0 < k then [32] else []) ++ pad (cellB r k).data.toList ((cols L).getD k 0);rw [if_pos hk0, HT.out, cols_getD, app_data, app_data, HS.out];unfold padB;rw [strL_data]
      obtain ⟨s2, hs2⟩ : ∃ s2, s ++ ⟨#[32]⟩ = s2 := ⟨_, rfl⟩;have hc3 : s2.size + (padB t (colAt L k : Int)).size <= 9223372036854775807 := by rw [<- hs2, hc2]; omega
      rw [hs2] at HNL;have hcat2 : s ++ (⟨#[32]⟩ : ByteArray) = s2 := hs2;clear hc2 hs2;go_wp2_with fail
      refine wp_region_quiet_below (by kernel_rfl) (by kernel_rfl) ?_;repeat (go_big_quiet_step ((first | (go_at_call 75; exact same_quiet (HCE.out _)) | (go_at_call 99; exact below_quiet (HPD.out _)))))
      refine wpQuiet_nil ?_;intro w1 hw';have hb1 := bw_below hw';have HBB1 : Hid (Below w0.heap.size w0 w1) := HBB.out.trans (hb1.mono HBB.out.size);clear hw' hb1 hcq hcr0;go_wp2;go_roundw
      case rel => exact ⟨k + 1, _, by omega, by go_num, rfl, HNL, HBB1⟩
      case measure => simp [intOf]; omega
     ·have hk0z : ¬ (0 : Int) < (k : Int) := by omega
      have hk00 : ¬ (0 : Int) < (k : Int) := hk0z
      have HNL : Hid ((s ++ padB t (colAt L k : Int)).data.toList = lineG (cols L) r (k + 1)) := by
       show _ = lineG (cols L) r k ++ (if 0 < k then [32] else []) ++ pad (cellB r k).data.toList ((cols L).getD k 0);rw [if_neg hk0, HT.out, cols_getD, app_data, HS.out, List.append_nil];unfold padB;rw [strL_data]
      have hc3 : s.size + (padB t (colAt L k : Int)).size <= 9223372036854775807 := by omega
      go_wp2_with fail
      refine wp_region_quiet_below (by kernel_rfl) (by kernel_rfl) ?_;repeat (go_big_quiet_step ((first | (go_at_call 75; exact same_quiet (HCE.out _)) | (go_at_call 99; exact below_quiet (HPD.out _)))))
      refine wpQuiet_nil ?_;intro w1 hw';have hb1 := bw_below hw';have HBB1 : Hid (Below w0.heap.size w0 w1) := HBB.out.trans (hb1.mono HBB.out.size);clear hw' hb1 hcq hcr0;go_wp2;go_roundw
      case rel => exact ⟨k + 1, _, by omega, by go_num, rfl, HNL, HBB1⟩
      case measure => simp [intOf]; omega
    ·obtain rfl : N = k := by omega
     have hkz : ¬ (N : Int) < (N : Int) := by omega
     have HLL : Hid (strL (trimR s.data.toList) = lineL (cols L) r) := by
      show _ = _;unfold lineL;rw [HS.out, cols_len, HN.out]
     have HTR := hI fun W => refTrim_any s W (by omega)
     rw [HLL.out] at HTR;clear HLL;go_wp2_with fail
     refine (HTR.out _).mono ?_;rintro e w3 ⟨rfl, rfl⟩;have HO2 := hI (HO0.out.on HBB.out);have hsz2 : wc.heap.size <= wi.heap.size := Nat.le_trans HBR0.out.size HBB.out.size;go_wp2_with (at_builtin; refine wpList_app1 rfl (.tmp 39) (.tmp 42) 45 rfl wc.heap.size 9 16 (.string .empty) info_string rfl Tryz.underlying45 rfl HO2.out rfl rfl (by omega) (by omega) hsz2 ?_; rintro v7 w4 hown7 hb7 hs7 hk7; clear hk7)
     have hO3 := own_s (n := 0) hown7;rw [<- HNX.out] at hO3;have HO3 := hI hO3;have HB3 : Hid (Below wc.heap.size wc w4) := (HBR0.out.trans (HBB.out.mono HBR0.out.size)).trans hb7;clear hO3 hown7 hb7 hs7;have hi1 : i + 1 <= n := HI.out;go_wp2;go_roundw
     case rel => exact ⟨i + 1, hi1, by go_num, HO3, HB3⟩
     case measure => have := HI.out; simp [intOf]; omega
  ·obtain rfl : n = i := by omega
   have hiz : ¬ (n : Int) < (n : Int) := by omega
   have h0 := HO.out;rw [List.take_of_length_le (by rw [HLN.out]; exact Nat.le_refl _)] at h0;have HO5 := hI h0;clear h0;go_wp2;go_ret;exact ⟨_, rfl, own_base HO5.out HBC.out.size, HBC.out.trans (HBR.out.mono HBC.out.size)⟩
end
end Go.Proofs.YthcabnfcgjnlnaaGreatDoor
namespace Go.Proofs.YthcabnfcgjnlnaaGreatDoor.Ok
def allTo (f : Nat -> Bool) : Nat -> Bool
 | 0 => true
 | k + 1 => allTo f k && f k
theorem allTo_iff {f : Nat -> Bool} : ∀ {n : Nat}, allTo f n = true ↔ ∀ i, i < n -> f i = true
 | 0 => by simp [allTo]
 | n + 1 => by
  simp only [allTo, Bool.and_eq_true, allTo_iff (n := n)];constructor
  ·intro ⟨h1, h2⟩ i hi;by_cases e : i = n
   ·subst e; exact h2
   ·exact h1 i (by omega)
  ·intro h;exact ⟨fun i hi => h i (by omega), h n (by omega)⟩
theorem allTo_next {f : Nat -> Bool} {k : Nat} (h : allTo f k = true) (hk : f k = true) : allTo f (k + 1) = true := by simp [allTo, h, hk]
theorem allTo_false {f : Nat -> Bool} {k n : Nat} (hk : k < n) (h : f k = false) : allTo f n = false := by
 cases hh : allTo f n with
 | false => rfl
 | true => rw [allTo_iff.1 hh k hk] at h; cases h
def okByte (b : UInt8) : Bool := !(decide (b.toNat < 32)) && !(decide (b.toNat = 127))
def labelB (s : List UInt8) : Bool := allTo (fun i => okByte (s.getD i 0)) s.length && ((Ru.points s).isSome && decide (1 <= s.length) && decide (s.length <= 32))
def smallB (b : UInt8) : Bool := decide (97 <= b.toNat) && decide (b.toNat <= 122)
def innerB (b : UInt8) : Bool := decide (b.toNat = 45) || decide (b.toNat = 95) || (decide (48 <= b.toNat) && decide (b.toNat <= 57))
def nameB (s : List UInt8) : Bool := allTo (fun i => smallB (s.getD i 0) || (!decide (i = 0) && innerB (s.getD i 0))) s.length && (decide (1 <= s.length) && decide (s.length <= 32))
end Go.Proofs.YthcabnfcgjnlnaaGreatDoor.Ok
namespace Go.Proofs.YthcabnfcgjnlnaaGreatDoor
open Go.RowKit
theorem getD_byte (s : ByteArray) (k : Nat) (h : k < s.size) : s.data.toList.getD k 0 = s[k] := by
 rw [List.getD, List.getElem?_eq_getElem (by rw [<- Lib.size_eq]; exact h)];rfl
set_option maxHeartbeats 1000000 in
theorem label10_any (s : ByteArray) (w : World) (hs : s.size <= 1099511627776) :
    Calls Tryz.prog 101 #[.string s] w fun e w' => e = .returned (.bool (Ok.labelB s.data.toList)) /\ Below w.heap.size w w' := by
  have HP := hI (points02_any s w hs);go_enter Tryz.func101, Tryz.ntmps101
  go_wp2;go_loop [3] (fun v => ∃ k : Nat, k <= s.size /\ v = .int .i64 k /\ Hid (Ok.allTo (fun i => Ok.okByte (s.data.toList.getD i 0)) k = true)) (fun v => s.size - (intOf v).toNat)
  case atStart => exact ⟨0, Nat.zero_le _, rfl, rfl⟩
  case round =>
    obtain ⟨k, hk, rfl, HA⟩ := hrel;by_cases hlt : k < s.size
    · have HG := hI (getD_byte s k hlt)
      by_cases h1 : (s[k]'hlt).toNat < 32
      · have HR : Hid (Ok.labelB s.data.toList = false) := by
          show _ = _;unfold Ok.labelB;rw [Ok.allTo_false (k := k) (by rw [<- Lib.size_eq]; exact hlt) (by rw [HG.out]; simp [Ok.okByte, h1])];rfl
        go_wp2;go_ret;exact ⟨ret_bool HR.out.symm, Below.refl _ _⟩
      · by_cases h2 : (s[k]'hlt).toNat = 127
        · have HR : Hid (Ok.labelB s.data.toList = false) := by
            show _ = _;unfold Ok.labelB;rw [Ok.allTo_false (k := k) (by rw [<- Lib.size_eq]; exact hlt) (by rw [HG.out]; simp [Ok.okByte, h2])];rfl
          have h3 : (((s[k]'hlt).toNat : Int) == 127) = true := beq_iff_eq.2 (by omega);have H2 := hI h2; clear h2
          go_wp2;go_ret;exact ⟨ret_bool HR.out.symm, Below.refl _ _⟩
        · have HN : Hid (Ok.allTo (fun i => Ok.okByte (s.data.toList.getD i 0)) (k + 1) = true) := Ok.allTo_next HA.out (by simp only [HG.out]; simp [Ok.okByte, h1, h2]; try omega)
          have h3 : (((s[k]'hlt).toNat : Int) == 127) = false := beq_eq_false_iff_ne.2 (by omega);clear h2;go_wp2;go_round
          case rel => exact ⟨k + 1, by omega, by go_num, HN⟩
          case measure => simp [intOf]; omega
    · obtain rfl : k = s.size := by omega
      have HLB : Hid (Ok.labelB s.data.toList = ((Ru.points s.data.toList).isSome && decide (1 <= s.size) && decide (s.size <= 32))) := by
        show _ = _;unfold Ok.labelB;rw [<- Lib.size_eq, HA.out];rfl
      obtain ⟨o, ho⟩ : ∃ o, Hid (Ru.points s.data.toList = o) := ⟨_, rfl⟩;rw [ho.out] at HP HLB
      cases o with
      | none =>
        go_wp2_with fail
        refine HP.out.mono ?_;rintro e w1 ⟨h1, _, hb⟩;obtain rfl := h1 rfl;clear h1;go_wp2;go_ret;exact ⟨ret_bool (by rw [HLB.out]; rfl), hb⟩
      | some d =>
        by_cases g1 : 1 <= s.size
        · have g1' : (1 : Int) <= (s.size : Int) := by omega
          by_cases g2 : s.size <= 32
          · go_wp2_with fail
            refine HP.out.mono ?_;rintro e w1 ⟨_, h1, hb⟩;obtain ⟨v, rfl, hv⟩ := h1 d rfl;have HV := hI hv; have HBB := hI hb
            clear h1 hv hb;go_wp2;go_ret;exact ⟨ret_bool (by rw [HLB.out]; simp [g1, g2]; try omega), HBB.out⟩
          · have g2' : ¬ (s.size : Int) <= 32 := by omega
            go_wp2_with fail
            refine HP.out.mono ?_;rintro e w1 ⟨_, h1, hb⟩;obtain ⟨v, rfl, hv⟩ := h1 d rfl;have HV := hI hv; have HBB := hI hb
            clear h1 hv hb;go_wp2;go_ret;exact ⟨ret_bool (by rw [HLB.out]; simp [g2]; try omega), HBB.out⟩
        · have g1' : ¬ (1 : Int) <= (s.size : Int) := by omega
          go_wp2_with fail
          refine HP.out.mono ?_;rintro e w1 ⟨_, h1, hb⟩;obtain ⟨v, rfl, hv⟩ := h1 d rfl;have HV := hI hv; have HBB := hI hb
          clear h1 hv hb;go_wp2;go_ret;exact ⟨ret_bool (by rw [HLB.out]; simp; try omega), HBB.out⟩
end Go.Proofs.YthcabnfcgjnlnaaGreatDoor
namespace Go.Proofs.YthcabnfcgjnlnaaGreatDoor
open Go.RowKit
set_option maxHeartbeats 4000000 in
theorem name10_any (s : ByteArray) (w : World) (hs : s.size <= 9223372036854775807) :
    Calls Tryz.prog 106 #[.string s] w fun e w' => e = .returned (.bool (Ok.nameB s.data.toList)) /\ w = w' := by
  go_enter Tryz.func106, Tryz.ntmps106
  go_wp2;go_loop [3, 4] (fun v _ => ∃ k : Nat, k <= s.size /\ v = .int .i64 k /\ Hid (Ok.allTo (fun i => Ok.smallB (s.data.toList.getD i 0) || (!decide (i = 0) && Ok.innerB (s.data.toList.getD i 0))) k = true)) (fun v _ => s.size - (intOf v).toNat)
  case atStart => exact ⟨0, Nat.zero_le _, rfl, rfl⟩
  case round =>
    obtain ⟨k, hk, rfl, HA⟩ := hrel;by_cases hlt : k < s.size
    · have HG := hI (getD_byte s k hlt)
      obtain ⟨b, hb⟩ : ∃ b : Nat, Hid ((s[k]'hlt).toNat = b) := ⟨_, rfl⟩;have hb256 : b < 256 := by rw [<- hb.out]; exact UInt8.toNat_lt _
      have zb : ((s[k]'hlt).toNat : Int) = (b : Int) := by rw [hb.out]
      have HFAIL : Hid ((Ok.smallB (s[k]'hlt) || (!decide (k = 0) && Ok.innerB (s[k]'hlt))) = false -> Ok.nameB s.data.toList = false) := fun h => by
        unfold Ok.nameB;rw [Ok.allTo_false (k := k) (by rw [<- Lib.size_eq]; exact hlt) (by rw [HG.out]; exact h)];rfl
      have HOK : Hid ((Ok.smallB (s[k]'hlt) || (!decide (k = 0) && Ok.innerB (s[k]'hlt))) = true -> Ok.allTo (fun i => Ok.smallB (s.data.toList.getD i 0) || (!decide (i = 0) && Ok.innerB (s.data.toList.getD i 0))) (k + 1) = true) := fun h =>
        Ok.allTo_next HA.out (by simp only [HG.out]; exact h)
      clear HG HA;unfold Ok.smallB Ok.innerB at HFAIL HOK;rw [hb.out] at HFAIL HOK
      have ways : (97 <= b /\ b <= 122) ∨ (b < 97 /\ k ≠ 0 /\ b = 45) ∨ (b < 97 /\ k ≠ 0 /\ b = 95) ∨ (b < 97 /\ k ≠ 0 /\ b ≠ 45 /\ b ≠ 95 /\ 48 <= b /\ b <= 57) ∨
        ((b < 97 /\ k = 0) ∨ (122 < b /\ k = 0) ∨ (b < 97 /\ k ≠ 0 /\ b ≠ 45 /\ b ≠ 95 /\ b < 48) ∨ (b < 97 /\ k ≠ 0 /\ b ≠ 45 /\ b ≠ 95 /\ 57 < b) ∨ (122 < b /\ k ≠ 0)) := by omega
      rcases ways with ⟨g1, g2⟩ | ⟨g1, g2, g3⟩ | ⟨g1, g2, g3⟩ | ⟨g1, g2, g3, g4, g5, g6⟩ | ways
      · have HN := hI (HOK.out (by simp [g1, g2]))
        clear HFAIL HOK;go_wp2;go_round
        case rel => exact ⟨k + 1, by omega, by go_num, HN⟩
        case measure => simp [intOf]; omega
      · have HN := hI (HOK.out (by simp [g2, g3]))
        have e1 : ((k : Int) == 0) = false := beq_eq_false_iff_ne.2 (by omega);have e2 : ((b : Int) != 45) = false := by simp; omega
        have G3 := hI g3; clear g3
        clear HFAIL HOK g2;go_wp2;go_round
        case rel => exact ⟨k + 1, by omega, by go_num, HN⟩
        case measure => simp [intOf]; omega
      · have HN := hI (HOK.out (by simp [g2, g3]))
        have e1 : ((k : Int) == 0) = false := beq_eq_false_iff_ne.2 (by omega);have e2 : ((b : Int) != 45) = true := by rw [bne_iff_ne]; omega
        have e3 : ((b : Int) != 95) = false := by simp; omega
        have G3 := hI g3; clear g3
        clear HFAIL HOK g2;go_wp2;go_round
        case rel => exact ⟨k + 1, by omega, by go_num, HN⟩
        case measure => simp [intOf]; omega
      · have HN := hI (HOK.out (by simp [g2, g5, g6]))
        have e1 : ((k : Int) == 0) = false := beq_eq_false_iff_ne.2 (by omega);have e2 : ((b : Int) != 45) = true := by rw [bne_iff_ne]; omega
        have e3 : ((b : Int) != 95) = true := by rw [bne_iff_ne]; omega
        clear HFAIL HOK g2 g3 g4;go_wp2;go_round
        case rel => exact ⟨k + 1, by omega, by go_num, HN⟩
        case measure => simp [intOf]; omega
      · have HN : Hid (Ok.nameB s.data.toList = false) := HFAIL.out (by
          rcases ways with ⟨g1, g2⟩ | ⟨g1, g2⟩ | ⟨g1, g2, g3, g4, g5⟩ | ⟨g1, g2, g3, g4, g5⟩ | ⟨g1, g2⟩ <;> simp <;> omega)
        clear HFAIL HOK;rcases ways with ⟨g1, g2⟩ | ⟨g1, g2⟩ | ⟨g1, g2, g3, g4, g5⟩ | ⟨g1, g2, g3, g4, g5⟩ | ⟨g1, g2⟩
        · subst g2
          go_wp2;go_ret;exact ⟨ret_bool HN.out.symm, rfl⟩
        · subst g2
          have e4 : decide ((b : Int) <= 122) = false := decide_eq_false (by omega);have e5 : decide ((97 : Int) <= (b : Int)) = true := decide_eq_true (by omega);go_wp2;go_ret;exact ⟨ret_bool HN.out.symm, rfl⟩
        · have e1 : ((k : Int) == 0) = false := beq_eq_false_iff_ne.2 (by omega)
          have e2 : ((b : Int) != 45) = true := by rw [bne_iff_ne]; omega
          have e3 : ((b : Int) != 95) = true := by rw [bne_iff_ne]; omega
          clear g2 g3 g4;go_wp2;go_ret;exact ⟨ret_bool HN.out.symm, rfl⟩
        · have e1 : ((k : Int) == 0) = false := beq_eq_false_iff_ne.2 (by omega)
          have e2 : ((b : Int) != 45) = true := by rw [bne_iff_ne]; omega
          have e3 : ((b : Int) != 95) = true := by rw [bne_iff_ne]; omega
          clear g2 g3 g4;go_wp2;go_ret;exact ⟨ret_bool HN.out.symm, rfl⟩
        · have e1 : ((k : Int) == 0) = false := beq_eq_false_iff_ne.2 (by omega)
          have e2 : ((b : Int) != 45) = true := by rw [bne_iff_ne]; omega
          have e3 : ((b : Int) != 95) = true := by rw [bne_iff_ne]; omega
          have e4 : decide ((b : Int) <= 122) = false := decide_eq_false (by omega);have e5 : decide ((97 : Int) <= (b : Int)) = true := decide_eq_true (by omega);have e6 : decide ((b : Int) < 48) = false := decide_eq_false (by omega);have e7 : decide ((57 : Int) < (b : Int)) = true := decide_eq_true (by omega);clear g2;go_wp2;go_ret;exact ⟨ret_bool HN.out.symm, rfl⟩
    · obtain rfl : k = s.size := by omega
      have HLB : Hid (Ok.nameB s.data.toList = (decide (1 <= s.size) && decide (s.size <= 32))) := by
        show _ = _;unfold Ok.nameB;rw [<- Lib.size_eq, HA.out];rfl
      by_cases g1 : 1 <= s.size
      · have g1' : (1 : Int) <= (s.size : Int) := by omega
        go_wp2;go_ret;exact ⟨ret_bool (by rw [HLB.out]; simp [g1]; try omega), rfl⟩
      · have g1' : ¬ (1 : Int) <= (s.size : Int) := by omega
        go_wp2;go_ret;exact ⟨ret_bool (by rw [HLB.out]; simp; try omega), rfl⟩
end Go.Proofs.YthcabnfcgjnlnaaGreatDoor
namespace Go.Proofs.YthcabnfcgjnlnaaGreatDoor
section
open Go.RowKit Ru Lay
attribute [local go_sem ↓] Go.wp_at_zero Go.wp_at_succ
def over11 (r : Int) : Int := if r = 2 then 1 else if r = 5 then 1 else if r = 3 then 2 else if r = 4 then 3 else -1
def rightS (a b : Int) : Bool := decide (0 <= a) && (decide (a < b) && decide (b <= 86400000))
set_option maxHeartbeats 400000 in
theorem timed_any (k : Int) (w : World) : Calls Tryz.prog 107 #[.int .i64 k] w fun e w' => e = .returned (.bool (timedK k)) /\ w = w' := by
 by_cases h0 : k = 0
 ·subst h0;go_enter Tryz.func107, Tryz.ntmps107
  go_wp2;go_ret;exact ⟨rfl, rfl⟩
 ·have b0 : (k == 0) = false := beq_eq_false_iff_ne.2 h0;by_cases h1 : k = 1
  ·subst h1;go_enter Tryz.func107, Tryz.ntmps107
   go_wp2;go_ret;exact ⟨rfl, rfl⟩
  ·have b1 : (k == 1) = false := beq_eq_false_iff_ne.2 h1;by_cases h2 : k = 2
   ·subst h2;go_enter Tryz.func107, Tryz.ntmps107
    go_wp2;go_ret;exact ⟨rfl, rfl⟩
   ·have b2 : (k == 2) = false := beq_eq_false_iff_ne.2 h2;go_enter Tryz.func107, Tryz.ntmps107
    go_wp2;go_ret;exact ⟨ret_bool (by unfold timedK; simp [h0, h1, h2]), rfl⟩
set_option maxHeartbeats 400000 in
theorem aligned_any (k : Int) (w : World) : Calls Tryz.prog 80 #[.int .i64 k] w fun e w' => e = .returned (.bool (timedK k)) /\ w = w' := by
 by_cases h0 : k = 0
 ·subst h0;go_enter Tryz.func80, Tryz.ntmps80
  go_wp2;go_ret;exact ⟨rfl, rfl⟩
 ·have b0 : (k == 0) = false := beq_eq_false_iff_ne.2 h0;by_cases h1 : k = 1
  ·subst h1;go_enter Tryz.func80, Tryz.ntmps80
   go_wp2;go_ret;exact ⟨rfl, rfl⟩
  ·have b1 : (k == 1) = false := beq_eq_false_iff_ne.2 h1;by_cases h2 : k = 2
   ·subst h2;go_enter Tryz.func80, Tryz.ntmps80
    go_wp2;go_ret;exact ⟨rfl, rfl⟩
   ·have b2 : (k == 2) = false := beq_eq_false_iff_ne.2 h2;go_enter Tryz.func80, Tryz.ntmps80
    go_wp2;go_ret;exact ⟨ret_bool (by unfold timedK; simp [h0, h1, h2]), rfl⟩
set_option maxHeartbeats 400000 in
theorem kind11_any (r : Int) (w : World) : Calls Tryz.prog 108 #[.int .i64 r] w fun e w' => e = .returned (.int .i64 (kind11 r)) /\ w = w' := by
 by_cases h1 : r = 1
 ·subst h1;go_enter Tryz.func108, Tryz.ntmps108
  go_wp2;go_ret;exact ⟨rfl, rfl⟩
 ·have b1 : (r == 1) = false := beq_eq_false_iff_ne.2 h1;by_cases h3 : r = 3
  ·subst h3;go_enter Tryz.func108, Tryz.ntmps108
   go_wp2;go_ret;exact ⟨rfl, rfl⟩
  ·have b3 : (r == 3) = false := beq_eq_false_iff_ne.2 h3;by_cases h4 : r = 4
   ·subst h4;go_enter Tryz.func108, Tryz.ntmps108
    go_wp2;go_ret;exact ⟨rfl, rfl⟩
   ·have b4 : (r == 4) = false := beq_eq_false_iff_ne.2 h4;by_cases h5 : r = 5
    ·subst h5;go_enter Tryz.func108, Tryz.ntmps108
     go_wp2;go_ret;exact ⟨rfl, rfl⟩
    ·have b5 : (r == 5) = false := beq_eq_false_iff_ne.2 h5;have HR : Hid (kind11 r = -1) := by show _ = _; unfold kind11; simp [h1, h3, h4, h5]
     go_enter Tryz.func108, Tryz.ntmps108
     go_wp2;go_ret;exact ⟨by rw [HR.out]; rfl, rfl⟩
set_option maxHeartbeats 400000 in
theorem over11_any (r : Int) (w : World) : Calls Tryz.prog 109 #[.int .i64 r] w fun e w' => e = .returned (.int .i64 (over11 r)) /\ w = w' := by
 by_cases h2 : r = 2
 ·subst h2;go_enter Tryz.func109, Tryz.ntmps109
  go_wp2;go_ret;exact ⟨rfl, rfl⟩
 ·have b2 : (r == 2) = false := beq_eq_false_iff_ne.2 h2;by_cases h5 : r = 5
  ·subst h5;go_enter Tryz.func109, Tryz.ntmps109
   go_wp2;go_ret;exact ⟨rfl, rfl⟩
  ·have b5 : (r == 5) = false := beq_eq_false_iff_ne.2 h5;by_cases h3 : r = 3
   ·subst h3;go_enter Tryz.func109, Tryz.ntmps109
    go_wp2;go_ret;exact ⟨rfl, rfl⟩
   ·have b3 : (r == 3) = false := beq_eq_false_iff_ne.2 h3;by_cases h4 : r = 4
    ·subst h4;go_enter Tryz.func109, Tryz.ntmps109
     go_wp2;go_ret;exact ⟨rfl, rfl⟩
    ·have b4 : (r == 4) = false := beq_eq_false_iff_ne.2 h4;have HR : Hid (over11 r = -1) := by show _ = _; unfold over11; simp [h2, h3, h4, h5]
     go_enter Tryz.func109, Tryz.ntmps109
     go_wp2;go_ret;exact ⟨by rw [HR.out]; rfl, rfl⟩
set_option maxHeartbeats 400000 in
theorem right09_any (a b : Int) (w : World) : Calls Tryz.prog 111 #[.agg #[.int .i64 a, .int .i64 b]] w fun e w' => e = .returned (.bool (rightS a b)) /\ Below w.heap.size w w' := by
 have HB : Hid (Below w.heap.size w (w.alloc (.cells #[.int .i64 a, .int .i64 b] 56))) := (Below.refl _ w).alloc (Nat.le_refl _) _;by_cases h0 : 0 <= a
 ·have d0 : decide (0 <= a) = true := decide_eq_true h0;by_cases h1 : a < b
  ·have d1 : decide (a < b) = true := decide_eq_true h1;have HR : Hid (rightS a b = decide (b <= 86400000)) := by show _ = _; unfold rightS; rw [d0, d1]; rfl
   go_enter Tryz.func111, Tryz.ntmps111
   go_wp2;go_ret;exact ⟨ret_bool HR.out.symm, HB.out⟩
  ·have d1 : decide (a < b) = false := decide_eq_false h1;have HR : Hid (rightS a b = false) := by show _ = _; unfold rightS; rw [d0, d1]; rfl
   go_enter Tryz.func111, Tryz.ntmps111
   go_wp2;go_ret;exact ⟨ret_bool HR.out.symm, HB.out⟩
 ·have d0 : decide (0 <= a) = false := decide_eq_false h0;have HR : Hid (rightS a b = false) := by show _ = _; unfold rightS; rw [d0]; rfl
  go_enter Tryz.func111, Tryz.ntmps111
  go_wp2;go_ret;exact ⟨ret_bool HR.out.symm, HB.out⟩
end
end Go.Proofs.YthcabnfcgjnlnaaGreatDoor
