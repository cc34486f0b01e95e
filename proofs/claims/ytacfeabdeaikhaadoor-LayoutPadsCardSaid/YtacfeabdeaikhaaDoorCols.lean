/-
  Columns, and that of the reference.
-/
import Derived.Test.YtacfeabdeaikhaaDoorGrid
import Derived.Deep.RegionWith
import Derived.Deep.DrawnRows
import Derived.Deep.LoopGhost
namespace Go.Proofs.YtacfeabdeaikhaaDoor
open Go.RowKit Ru Lay
attribute [local go_sem ↓] Go.wp_at_zero Go.wp_at_succ
set_option linter.unusedVariables false
set_option linter.unusedSimpArgs false

set_option maxHeartbeats 4000000 in
set_option maxRecDepth 100000 in
theorem columns_any (A : Option Addr) (n c : Nat) (L : List (List ByteArray)) (w : World) (hL : RowsR w w.heap.size A n L) (hz : SzL L) (hT : Tabs w) :
    Calls Tryd.prog 19 #[.slice A n c] w fun e w' => ∃ v, e = .returned v ∧ OwnI w' w.heap.size v (cols L) ∧ Below w.heap.size w w' := by
  have HT := Lib.hid hT
  have HL := Lib.hid hL
  have HZ := Lib.hid hz
  have HLN := Lib.hid hL.len
  have hn : n ≤ 100000 := by have := hL.len; have := hz.1; omega
  clear hT hL hz
  go_enter Tryd.func19, Tryd.ntmps19
  go_wp2_with fail
  go_loopw [3, 10] (fun v3 v10 wr => ∃ i : Nat, i ≤ n ∧ v10 = .int .i64 i ∧ Hid (OwnI wr w.heap.size v3 (cols (L.take i))) ∧ Hid (Below w.heap.size w wr)) (fun _ v10 _ => n - (intOf v10).toNat)
  case atStart => exact ⟨0, Nat.zero_le _, rfl, (by rw [List.take_zero]; exact OwnI.nil _ _), Below.refl _ _⟩
  case round =>
    obtain ⟨i, hi, rfl, HO, HB⟩ := hrel
    obtain ⟨w0, hw0⟩ : ∃ w0, wr = w0 := ⟨_, rfl⟩
    rw [hw0] at HO HB ⊢
    clear hw0
    by_cases hlt : i < n
    · have hiz : (i : Int) < (n : Int) := by omega
      obtain ⟨ad, r, RA, rn, rc, rfl, hadb, hr, hcr, hsr, _, _⟩ := HL.out.at_ hlt
      have hcr0 : w0.cell? (ad.add i) = some (.slice RA rn rc) := (HB.out.cell (by rw [block_of_add]; exact hadb)).trans hcr
      have HR := Lib.hid hr
      have HSR := Lib.hid hsr
      have HRN : Hid (r.length = rn) := hsr.len
      have hrn : rn ≤ 100000 := by have := HRN.out; have := (HZ.out.row hr).1; omega
      have HSZ := Lib.hid (HZ.out.row hr)
      obtain ⟨Lt, hLt⟩ : ∃ Lt, L.take i = Lt := ⟨_, rfl⟩
      have HNX : Hid (L.take (i + 1) = Lt ++ [r]) := by show _ = _; rw [take_at2 hr, hLt]
      have HNM : Hid (nmax Lt ≤ 100000) := by show _ ≤ _; rw [← hLt]; exact (HZ.out.take i).nmax
      rw [hLt] at HO
      have HI := Lib.hid hlt
      clear hcr hsr hr hLt
      go_wp2_with fail
      clear hcr0
      go_loopw [3, 16] (fun v3 v16 w1 => ∃ j m : Nat, j ≤ rn ∧ v16 = .int .i64 j ∧ Hid (m = max (nmax Lt) j) ∧ Hid (OwnI w1 w.heap.size v3 (colsG m Lt r j)) ∧ Hid (Below w.heap.size w w1)) (fun _ v16 _ => rn - (intOf v16).toNat)
      case atStart =>
        refine ⟨0, nmax Lt, Nat.zero_le _, rfl, (by show _ = _; omega), ?_, HB⟩
        have h0 : colsG (nmax Lt) Lt r 0 = cols Lt := by rw [colsG_zero]; rfl
        rw [h0]
        exact HO
      case round =>
        clear HO HB
        obtain ⟨j, m0, hj, rfl, HM0, HO, HB⟩ := hrel
        obtain ⟨w1, hw1⟩ : ∃ w1, w1 = wr := ⟨_, rfl⟩
        rw [← hw1] at HO HB ⊢
        clear hw1
        by_cases hjl : j < rn
        · have hjz : (j : Int) < (rn : Int) := by omega
          obtain ⟨rd, s, rfl, hrb, hs, hcs⟩ := HSR.out.at_ hjl
          have hcs1 : w1.cell? (rd.add j) = some (.string s) := (HB.out.cell (by rw [block_of_add]; exact hrb)).trans hcs
          have HS := Lib.hid hs
          have hss := HSZ.out.cell hs
          have HWD := Lib.hid fun W (hb : Below w.heap.size w W) => width_any s W (by omega) (HT.out.on hb)
          have hm0 : m0 ≤ 200000 := by have h1 := HM0.out; have h2 := HNM.out; omega
          obtain ⟨vA, vc, hvf, _, _, _⟩ := HO.out.form
          rw [colsG_len] at hvf
          subst hvf
          have hszw := HB.out.size
          clear hcs hs
          by_cases hjm0 : j < m0
          · have hne : ((j : Int) == (m0 : Int)) = false := beq_eq_false_iff_ne.2 (by omega)
            have hne2 : ¬ j = m0 := by omega
            obtain ⟨m, hm⟩ : ∃ m, m = m0 := ⟨_, rfl⟩
            have HMX : Hid (m = max (nmax Lt) (j + 1)) := by show _ = _; have := HM0.out; omega
            have HJM : Hid (j < m) := by show _ < _; omega
            obtain ⟨WW, hWW⟩ : ∃ WW, WW = w1 := ⟨_, rfl⟩
            rw [← hm] at HO hne hne2 hm0 ⊢
            rw [← hWW] at HO HB hszw hcs1 ⊢
            have HO2 := HO
            have HBW := HB
            clear hm hWW hjm0 HM0 HO HB
            go_wp2_with fail
            have hlx : (colsG m Lt r j)[j]? = some (colAt Lt j : Int) := by rw [colsG_at HJM.out, if_neg (by omega)]
            obtain ⟨g, cap, hv, hg1, hgl, hcl, hfl⟩ := HO2.out.at_ hlx
            have hml : (colsG m Lt r j).length = m := colsG_len _ _ _ _
            rw [hml] at hv
            first | subst hv | cases hv
            have HX : Hid ((colsG m Lt r j).set j (max (colAt Lt j : Int) (widB s : Int)) = colsG m Lt r (j + 1)) := by
              have h0 := colsG_set (n := m) (L := Lt) (r := r) (j := j) HJM.out
              rw [cellB_some HS.out] at h0
              exact h0
            obtain ⟨x, hx⟩ : ∃ x : Int, (colAt Lt j : Int) = x := ⟨_, rfl⟩
            rw [hx] at hcl HX
            obtain ⟨y, hy⟩ : ∃ y : Int, (widB s : Int) = y := ⟨_, rfl⟩
            rw [hy] at HWD HX
            have hjA : (0 : Int) ≤ (j : Int) := by omega
            have hjm := HJM.out
            have hjmz : (j : Int) < (m : Int) := by omega
            have HML := Lib.hid hml
            clear hlx hml hx hy
            have eaddr : (⟨g, 0, none⟩ : Addr).add j = ⟨g, j, none⟩ := by
              unfold Addr.add
              split
              · rename_i h; simp [h]
              · simp
            go_region_with ((go_at_call 13; refine (HWD.out _ (HBW.out.drew)).mono ?_; rintro e w3 ⟨rfl, hb3⟩
                             have hl3 : w3.cell? ⟨g, j, none⟩ = some (.int .i64 x) := (hb3.cell hgl).trans hcl
                             have hf3 : w3.frozen? ⟨g, j, none⟩ = false := (hb3.frozen hgl).trans hfl))
            all_goals
              have HBB : Hid (Below WW.heap.size WW w3) := (Below.refl _ WW).drew.trans hb3
              have hown3 := HO2.out.on HBB.out
              have hst := hown3.set HML.out.symm j (max x y)
              rw [HX.out] at hst
              have HO4 := Lib.hid hst.1
              have HB4 : Hid (Below w.heap.size w (w3.setCell ⟨g, j, none⟩ (.int .i64 (max x y)))) := (HBW.out.trans (HBB.out.mono HBW.out.size)).trans hst.2
              clear hst hown3 hb3 hl3 hf3
              go_wp2
              go_roundw
              case rel => exact ⟨j + 1, m, by omega, by go_num, HMX.out, HO4, HB4⟩
              case measure => simp [intOf]; omega
          · have hje : j = m0 := by have := HM0.out; omega
            have hne : ((j : Int) == (m0 : Int)) = true := beq_iff_eq.2 (by omega)
            have HOW : Hid (w1.ownsRow w.heap.size 3 1 (.slice vA m0 vc) m0 (intV (colsG m0 Lt r j))) := by
              have h0 := HO.out
              unfold OwnI at h0
              rw [colsG_len] at h0
              exact h0
            obtain ⟨m, hm⟩ : ∃ m, m = m0 + 1 := ⟨_, rfl⟩
            have HMX : Hid (m = max (nmax Lt) (j + 1)) := by show _ = _; have := HM0.out; omega
            have HJM : Hid (j < m) := by show _ < _; omega
            have HCG : Hid (colsG m0 Lt r j ++ [0] = colsG m Lt r j) := by
              show _ = _
              rw [hm]
              exact colsG_more (by have := HM0.out; omega) (by omega)
            have HMM := Lib.hid hm
            clear hje hm hjm0 HM0 HO
            go_wp2_with (at_builtin; refine wpList_app1 rfl (.tmp 25) (.tmp 26) 29 rfl w.heap.size 3 8 _ info_int2 rfl Tryd.underlying29 rfl HOW.out rfl rfl (by omega) (by omega) hszw ?_; rintro v7 WW hown7 hb7 hs7 hk7; clear hk7)
            have HO2 : Hid (OwnI WW w.heap.size v7 (colsG m Lt r j)) := by
              show World.ownsRow _ _ _ _ _ _ _
              rw [colsG_len, HMM.out, ← HMM.out, ← HCG.out, ← intV_app, HMM.out]
              exact hown7
            have HBW : Hid (Below w.heap.size w WW) := HB.out.trans hb7
            have hszW := HBW.out.size
            clear hown7 hb7 hs7 HOW HCG
            have hlx : (colsG m Lt r j)[j]? = some (colAt Lt j : Int) := by rw [colsG_at HJM.out, if_neg (by omega)]
            obtain ⟨g, cap, hv, hg1, hgl, hcl, hfl⟩ := HO2.out.at_ hlx
            have hml : (colsG m Lt r j).length = m := colsG_len _ _ _ _
            rw [hml] at hv
            first | subst hv | cases hv
            have HX : Hid ((colsG m Lt r j).set j (max (colAt Lt j : Int) (widB s : Int)) = colsG m Lt r (j + 1)) := by
              have h0 := colsG_set (n := m) (L := Lt) (r := r) (j := j) HJM.out
              rw [cellB_some HS.out] at h0
              exact h0
            obtain ⟨x, hx⟩ : ∃ x : Int, (colAt Lt j : Int) = x := ⟨_, rfl⟩
            rw [hx] at hcl HX
            obtain ⟨y, hy⟩ : ∃ y : Int, (widB s : Int) = y := ⟨_, rfl⟩
            rw [hy] at HWD HX
            have hjA : (0 : Int) ≤ (j : Int) := by omega
            have hjm := HJM.out
            have hjmz : (j : Int) < (m : Int) := by omega
            have HML := Lib.hid hml
            clear hlx hml hx hy
            have eaddr : (⟨g, 0, none⟩ : Addr).add j = ⟨g, j, none⟩ := by
              unfold Addr.add
              split
              · rename_i h; simp [h]
              · simp
            go_region_with ((go_at_call 13; refine (HWD.out _ (HBW.out.drew)).mono ?_; rintro e w3 ⟨rfl, hb3⟩
                             have hl3 : w3.cell? ⟨g, j, none⟩ = some (.int .i64 x) := (hb3.cell hgl).trans hcl
                             have hf3 : w3.frozen? ⟨g, j, none⟩ = false := (hb3.frozen hgl).trans hfl))
            all_goals
              have HBB : Hid (Below WW.heap.size WW w3) := (Below.refl _ WW).drew.trans hb3
              have hown3 := HO2.out.on HBB.out
              have hst := hown3.set HML.out.symm j (max x y)
              rw [HX.out] at hst
              have HO4 := Lib.hid hst.1
              have HB4 : Hid (Below w.heap.size w (w3.setCell ⟨g, j, none⟩ (.int .i64 (max x y)))) := (HBW.out.trans (HBB.out.mono HBW.out.size)).trans hst.2
              clear hst hown3 hb3 hl3 hf3
              go_wp2
              go_roundw
              case rel => exact ⟨j + 1, m, by omega, by go_num, HMX.out, HO4, HB4⟩
              case measure => simp [intOf]; omega
        · obtain rfl : j = rn := by omega
          have hjz : ¬ (j : Int) < (j : Int) := by omega
          have hcc : colsG m0 Lt r j = cols (L.take (i + 1)) := by rw [HNX.out, ← colsG_fin, HRN.out, ← HM0.out]
          have h0 := HO.out
          rw [hcc] at h0
          have HO5 := Lib.hid h0
          clear hcc h0
          have hi1 : i + 1 ≤ n := HI.out
          go_wp2
          go_roundw
          case rel => exact ⟨i + 1, hi1, by go_num, HO5, HB⟩
          case measure => have := HI.out; simp [intOf]; omega
    · obtain rfl : i = n := by omega
      have hjz : ¬ (i : Int) < (i : Int) := by omega
      have h0 := HO.out
      rw [List.take_of_length_le (by rw [HLN.out]; exact Nat.le_refl _)] at h0
      have HO5 := Lib.hid h0
      clear h0
      go_wp2
      go_ret
      exact ⟨_, rfl, HO5.out, HB.out⟩
theorem made_zeros (n : Nat) : (madeCells (Value.int .i64 0).cells (n * 1)).toList = intV (colsG n [] [] 0) := by
  unfold intV
  rw [colsG_zero, List.map_map]
  refine List.ext_getElem? fun k => ?_
  by_cases hk : k < n
  · rw [List.getElem?_map, List.getElem?_range hk]
    simp [madeCells, hk, Value.cells, colAt, Nat.mod_one]
  · have h1 : (madeCells (Value.int .i64 0).cells (n * 1)).toList.length = n := by rw [Array.length_toList, size_madeCells, Nat.mul_one]
    rw [List.getElem?_eq_none (by rw [h1]; omega), List.getElem?_eq_none (by simp; omega)]
def colsN (m : Nat) (L : List (List ByteArray)) : List Int := (List.range m).map fun k => (colAt L k : Int)
theorem colsN_zero (m : Nat) (L : List (List ByteArray)) (r : List ByteArray) : colsG m L r 0 = colsN m L := colsG_zero m L r
theorem colsN_end {m : Nat} {L : List (List ByteArray)} {r : List ByteArray} {j : Nat} (h : r.length ≤ j) : colsG m L r j = colsN m (L ++ [r]) := colsG_end h
set_option maxHeartbeats 4000000 in
set_option maxRecDepth 100000 in
theorem refColumns_any (A : Option Addr) (n c : Nat) (L : List (List ByteArray)) (w : World) (hL : RowsR w w.heap.size A n L) (hz : SzL L) :
    Calls Tryd.prog 20 #[.slice A n c] w fun e w' => ∃ v, e = .returned v ∧ OwnI w' w.heap.size v (cols L) ∧ Below w.heap.size w w' := by
  have HL := Lib.hid hL
  have HZ := Lib.hid hz
  have HLN := Lib.hid hL.len
  have hn : n ≤ 100000 := by have := hL.len; have := hz.1; omega
  clear hL hz
  obtain ⟨i0, hinf, hz0, hz1, hz2⟩ := info_parts info_int2
  go_enter Tryd.func20, Tryd.ntmps20
  go_wp2_with fail
  go_loop [3, 4] (fun v3 v4 => ∃ i : Nat, i ≤ n ∧ v4 = .int .i64 i ∧ v3 = .int .i64 (nmax (L.take i) : Int)) (fun _ v4 => n - (intOf v4).toNat)
  case atStart => exact ⟨0, Nat.zero_le _, rfl, rfl⟩
  case round =>
    obtain ⟨i, hi, rfl, rfl⟩ := hrel
    by_cases hlt : i < n
    · have hiz : (i : Int) < (n : Int) := by omega
      obtain ⟨ad, r, RA, rn, rc, rfl, hadb, hr, hcr, hsr, _, _⟩ := HL.out.at_ hlt
      have HNX : Hid (max (nmax (L.take i) : Int) (rn : Int) = (nmax (L.take (i + 1)) : Int)) := by
        show _ = _
        rw [take_at2 hr, nmax_snoc, hsr.len]
        omega
      clear hr hsr
      go_wp2
      go_round
      case rel => exact ⟨i + 1, by omega, by go_num, by rw [HNX.out]⟩
      case measure => simp [intOf]; omega
    · obtain rfl : n = i := by omega
      have hjz : ¬ (n : Int) < (n : Int) := by omega
      have hNM := HZ.out.nmax
      have e1 : L.take n = L := List.take_of_length_le (by rw [HLN.out]; exact Nat.le_refl _)
      rw [e1]
      obtain ⟨m, hm⟩ : ∃ m, nmax L = m := ⟨_, rfl⟩
      have HM := Lib.hid hm
      rw [hm] at hNM ⊢
      clear hm e1
      go_wp2_with (at_make; refine wpList_make_full _ rfl (.tmp 21) (.tmp 21) 29 rfl w.heap.size 3 i0 (.int .i64 0) 1 Tryd.underlying29 hinf hz0 hz1 .i64 .i64 _ _ m rfl rfl rfl rfl (by rw [hz2]; omega) (by unfold maxLen; omega) (Nat.le_refl _) ?_; intro w1 hown1 hgr1)
      rw [made_zeros] at hown1
      have HO1 : Hid (OwnI w1 w.heap.size (.slice (some ⟨w.heap.size, 0, none⟩) m m) (colsN m (L.take 0))) := by
        show World.ownsRow _ _ _ _ _ _ _
        rw [List.take_zero, ← colsN_zero m [] [], colsG_len]
        exact hown1
      have HB1 : Hid (Below w.heap.size w w1) := (Below.refl _ w).grown hgr1 (Nat.le_refl _) (fun r e => by cases e)
      obtain ⟨vo, hvo⟩ : ∃ vo, Value.slice (some ⟨w.heap.size, 0, none⟩) m m = vo := ⟨_, rfl⟩
      rw [hvo] at HO1 ⊢
      clear hown1 hgr1 hvo
      go_loopw [6, 7] (fun v6 _ wr => ∃ i : Nat, i ≤ n ∧ v6 = .int .i64 i ∧ Hid (OwnI wr w.heap.size vo (colsN m (L.take i))) ∧ Hid (Below w.heap.size w wr)) (fun v6 _ _ => n - (intOf v6).toNat)
      case atStart => exact ⟨0, Nat.zero_le _, rfl, HO1, HB1⟩
      case round =>
        clear HO1 HB1
        obtain ⟨i, hi, rfl, HO, HB⟩ := hrel
        obtain ⟨w0, hw0⟩ : ∃ w0, wr = w0 := ⟨_, rfl⟩
        rw [hw0] at HO HB ⊢
        clear hw0
        by_cases hlt : i < n
        · have hiz : (i : Int) < (n : Int) := by omega
          obtain ⟨ad, r, RA, rn, rc, rfl, hadb, hr, hcr, hsr, _, _⟩ := HL.out.at_ hlt
          have HCR : Hid (∀ W, Below w.heap.size w W → W.cell? (ad.add i) = some (.slice RA rn rc)) := fun W hW => (hW.cell (by rw [block_of_add]; exact hadb)).trans hcr
          have HSR := Lib.hid hsr
          have HRN : Hid (r.length = rn) := hsr.len
          have hrn : rn ≤ 100000 := by have := HRN.out; have := (HZ.out.row hr).1; omega
          have HSZ := Lib.hid (HZ.out.row hr)
          obtain ⟨Lt, hLt⟩ : ∃ Lt, L.take i = Lt := ⟨_, rfl⟩
          have HNX : Hid (L.take (i + 1) = Lt ++ [r]) := by show _ = _; rw [take_at2 hr, hLt]
          have HRM : Hid (rn ≤ m) := by show _ ≤ _; rw [← HM.out, ← HRN.out]; exact le_nmax (List.mem_of_getElem? hr)
          rw [hLt, ← colsN_zero m Lt r] at HO
          have HI := Lib.hid hlt
          have hix : (i : Int) < (n : Int) := hiz
          have hiA : (0 : Int) ≤ (i : Int) := by omega
          clear hcr hsr hr hLt
          go_wp2_with fail
          go_loopw [7] (fun v7 w1 => ∃ j : Nat, j ≤ m ∧ v7 = .int .i64 j ∧ Hid (OwnI w1 w.heap.size vo (colsG m Lt r j)) ∧ Hid (Below w.heap.size w w1)) (fun v7 _ => m - (intOf v7).toNat)
          case atStart => exact ⟨0, Nat.zero_le _, rfl, HO, HB⟩
          case round =>
            clear HO HB
            obtain ⟨j, hj, rfl, HO2, HBW⟩ := hrel
            obtain ⟨WW, hWW⟩ : ∃ WW, WW = wr := ⟨_, rfl⟩
            rw [← hWW] at HO2 HBW ⊢
            clear hWW
            by_cases hjl : j < m
            · have HJM : Hid (j < m) := hjl
              obtain ⟨s, hs⟩ : ∃ s, cellB r j = s := ⟨_, rfl⟩
              have hss := HSZ.out.cellB j
              have HCE := Lib.hid fun W (hb : Below w.heap.size w W) => cell_any RA rn rc r j W (SR.on HSR.out hb) (by omega) (by omega)
              have HWD := Lib.hid fun W => refWidth_any s W (by rw [← hs]; omega)
              have HSC := Lib.hid hs
              rw [hs] at HCE hss
              have hcr0 := HCR.out WW HBW.out
              clear hs
              have hlx : (colsG m Lt r j)[j]? = some (colAt Lt j : Int) := by rw [colsG_at HJM.out, if_neg (by omega)]
              obtain ⟨g, cap, hv, hg1, hgl, hcl, hfl⟩ := HO2.out.at_ hlx
              have hml : (colsG m Lt r j).length = m := colsG_len _ _ _ _
              rw [hml] at hv
              first | subst hv | cases hv
              have HX : Hid ((colsG m Lt r j).set j (max (colAt Lt j : Int) (widB s : Int)) = colsG m Lt r (j + 1)) := by
                have h0 := colsG_set (n := m) (L := Lt) (r := r) (j := j) HJM.out
                rw [HSC.out] at h0
                exact h0
              obtain ⟨x, hx⟩ : ∃ x : Int, (colAt Lt j : Int) = x := ⟨_, rfl⟩
              rw [hx] at hcl HX
              obtain ⟨y, hy⟩ : ∃ y : Int, (widB s : Int) = y := ⟨_, rfl⟩
              rw [hy] at HWD HX
              have hjA : (0 : Int) ≤ (j : Int) := by omega
              have hjm := HJM.out
              have hjmz : (j : Int) < (m : Int) := by omega
              have HML := Lib.hid hml
              clear hlx hml hx hy
              have eaddr : (⟨g, 0, none⟩ : Addr).add j = ⟨g, j, none⟩ := by
                unfold Addr.add
                split
                · rename_i h; simp [h]
                · simp
              go_wp2_with fail
              go_region_with ((first
                | (go_at_call 35; refine (HCE.out _ (HBW.out.drew)).mono ?_; rintro e w2 ⟨rfl, rfl⟩)
                | (go_at_call 14; refine (HWD.out _).mono ?_; rintro e w3 ⟨rfl, hb3⟩
                   have hl3 : w3.cell? ⟨g, j, none⟩ = some (.int .i64 x) := (hb3.cell hgl).trans hcl
                   have hf3 : w3.frozen? ⟨g, j, none⟩ = false := (hb3.frozen hgl).trans hfl)))
              all_goals
                have HBB : Hid (Below WW.heap.size WW w3) := (Below.refl _ WW).drew.trans hb3
                have hown3 := HO2.out.on HBB.out
                have hst := hown3.set HML.out.symm j (max x y)
                rw [HX.out] at hst
                have HO4 := Lib.hid hst.1
                have HB4 : Hid (Below w.heap.size w (w3.setCell ⟨g, j, none⟩ (.int .i64 (max x y)))) := (HBW.out.trans (HBB.out.mono HBW.out.size)).trans hst.2
                clear hst hown3 hb3 hl3 hf3
                go_wp2
                go_roundw
                case rel => exact ⟨j + 1, by omega, by go_num, HO4, HB4⟩
                case measure => simp [intOf]; omega
            · obtain rfl : m = j := by omega
              have hjz : ¬ (m : Int) < (m : Int) := by omega
              have hcc : colsG m Lt r m = colsN m (L.take (i + 1)) := by rw [HNX.out]; exact colsN_end (by have := HRN.out; have := HRM.out; omega)
              have h0 := HO2.out
              rw [hcc] at h0
              have HO5 := Lib.hid h0
              clear hcc h0
              have hi1 : i + 1 ≤ n := HI.out
              go_wp2
              go_roundw
              case rel => exact ⟨i + 1, hi1, by go_num, HO5, HBW⟩
              case measure => have := HI.out; simp [intOf]; omega
        · obtain rfl : n = i := by omega
          have hjz : ¬ (n : Int) < (n : Int) := by omega
          have h0 := HO.out
          rw [List.take_of_length_le (by rw [HLN.out]; exact Nat.le_refl _)] at h0
          have h1 : colsN m L = cols L := by rw [← HM.out]; rfl
          rw [h1] at h0
          have HO5 := Lib.hid h0
          clear h0 h1
          go_wp2
          go_ret
          exact ⟨_, rfl, HO5.out, HB.out⟩
end Go.Proofs.YtacfeabdeaikhaaDoor
