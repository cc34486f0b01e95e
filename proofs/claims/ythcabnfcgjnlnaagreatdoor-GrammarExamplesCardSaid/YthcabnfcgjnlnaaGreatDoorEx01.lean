import Derived.Test.YthcabnfcgjnlnaaGreatDoorE07
import Derived.Deep.RegionWith
import Derived.Deep.DrawnRows
import Derived.Lib.MinMax
import Derived.Deep.LoopGhost
set_option linter.unusedVariables false
set_option linter.unusedSimpArgs false
namespace Go.Proofs.YthcabnfcgjnlnaaGreatDoor
open Go.RowKit
namespace Ru
end Ru
set_option maxHeartbeats 400000 in
theorem refMark_any (p : Int) (w : World) : Calls Tryz.prog 145 #[.int .i64 p] w fun e w' => e = .returned (.bool (Ru.markB p)) ∧ w = w' := by
 by_cases h1 : 768 ≤ p
 ·have d1 : decide (768 ≤ p) = true := decide_eq_true h1
  by_cases h2 : p ≤ 879
  ·have d2 : decide (p ≤ 879) = true := decide_eq_true h2
   go_enter Tryz.func145, Tryz.ntmps145
   go_wp2
   go_ret
   exact ⟨ret_bool (by simp [Ru.markB, h1, h2]), rfl⟩
  ·have d2 : decide (p ≤ 879) = false := decide_eq_false h2
   go_enter Tryz.func145, Tryz.ntmps145
   go_wp2
   go_ret
   exact ⟨ret_bool (by simp [Ru.markB, h1, h2]), rfl⟩
 ·have d1 : decide (768 ≤ p) = false := decide_eq_false h1
  go_enter Tryz.func145, Tryz.ntmps145
  go_wp2
  go_ret
  exact ⟨ret_bool (by unfold Ru.markB; rw [d1]; rfl), rfl⟩
end Go.Proofs.YthcabnfcgjnlnaaGreatDoor
namespace Go.Proofs.YthcabnfcgjnlnaaGreatDoor.Ru
open Go.Proofs.YthcabnfcgjnlnaaGreatDoor.Col Go.Proofs.YthcabnfcgjnlnaaGreatDoor.Srt
theorem encS_one (p : Nat) : encS [p] = encL (p : Int) := by unfold encS; simp
end Go.Proofs.YthcabnfcgjnlnaaGreatDoor.Ru
namespace Go.Proofs.YthcabnfcgjnlnaaGreatDoor
open Go.RowKit
theorem flat_le (l : List Int) : (l.flatMap Ru.encL).length ≤ 4 * l.length := by
 induction l with
 | nil => simp
 | cons x t ih =>
  have := (Ru.encL_len x).2
  simp only [List.flatMap_cons, List.length_append, List.length_cons]
  omega
end Go.Proofs.YthcabnfcgjnlnaaGreatDoor
namespace Go.Proofs.YthcabnfcgjnlnaaGreatDoor
open Go.RowKit Ru
theorem encS_le (l : List Nat) : (Ru.encS l).length ≤ 4 * l.length := by
 have := flat_le (l.map fun (p : Nat) => (p : Int))
 rw [List.flatMap_map, List.length_map] at this
 exact this
end Go.Proofs.YthcabnfcgjnlnaaGreatDoor
namespace Go.Proofs.YthcabnfcgjnlnaaGreatDoor
open Go.RowKit Ru
attribute [local go_sem ↓] Go.wp_at_zero Go.wp_at_succ
theorem own_stored {w : World} {base e g n cap k : Nat} {done : List (List Nat)} {c c' : List Nat} (h : w.ownsRow base e 1 (.slice (some ⟨g, 0, none⟩) n cap) n (strV (done ++ [c]))) (hk : done.length = k) :
  (w.setCell ⟨g, k, none⟩ (.string (strC c'))).ownsRow base e 1 (.slice (some ⟨g, 0, none⟩) n cap) n (strV (done ++ [c'])) ∧ Below base w (w.setCell ⟨g, k, none⟩ (.string (strC c'))) := by
 subst hk
 have h2 := h.stored done.length (.string (strC c'))
 have e1 : (strV (done ++ [c])).set done.length (.string (strC c')) = strV (done ++ [c']) := by
  unfold strV
  rw [List.map_append, List.map_append, List.set_append_right _ _ (by simp)]
  simp
 rw [e1] at h2
 exact ⟨h2.1, (Below.refl _ _).grown h2.2 (Nat.le_of_lt (Nat.lt_of_le_of_lt (h.lt g rfl).1 (h.lt g rfl).2)) fun k hk => by cases hk; exact (h.lt g rfl).1⟩
set_option maxHeartbeats 4000000 in
set_option maxRecDepth 100000 in
theorem refClusters_any (s : ByteArray) (w : World) (hs : s.size ≤ 1099511627) :
    Calls Tryz.prog 126 #[.string s] w fun e w' => ∃ v, e = .returned v ∧ w'.ownsRow w.heap.size 9 1 v (clusB s.data.toList).length ((clusB s.data.toList).map .string) ∧ Below w.heap.size w w' := by
  have HPT := Lib.hid (points02_any s w (by omega))
  obtain ⟨o, ho⟩ : ∃ o, Hid (points s.data.toList = o) := ⟨_, rfl⟩
  rw [ho.out] at HPT
  cases o with
  | none =>
    have HRES : Hid (clusB s.data.toList = []) := by
      show _ = _
      unfold clusB
      rw [ho.out]
    rw [HRES.out]
    go_enter Tryz.func126, Tryz.ntmps126
    go_wp2_with fail
    refine HPT.out.mono ?_
    rintro e w1 ⟨h1, _, hb1⟩
    rw [h1 rfl]
    clear h1
    go_wp2
    go_ret
    exact ⟨_, rfl, World.ownsRow_nil _ _ _ _, hb1⟩
  | some d =>
    have HSC : Hid (Sc d) := points_sc ho.out
    have hdl : d.length ≤ 1099511627 := by
      have := points_length _ _ _ (Nat.le_refl _) ho.out
      rw [← Lib.size_eq] at this
      omega
    have HRES : Hid (clusB s.data.toList = (clus d).map strC) := by
      show _ = _
      unfold clusB
      rw [ho.out]
    rw [HRES.out]
    go_enter Tryz.func126, Tryz.ntmps126
    go_wp2_with fail
    refine HPT.out.mono ?_
    rintro e w1 ⟨_, h2, hb1⟩
    obtain ⟨v, rfl, hown⟩ := h2 d rfl
    clear h2
    obtain ⟨AD, cd, rfl, hcd1, hcd2, rd⟩ := own_form hown
    have HD : Hid (NR w1 w1.heap.size AD d.length d) := rd
    have HB1 := Lib.hid hb1
    obtain ⟨nd, hnd⟩ : ∃ q, d.length = q := ⟨_, rfl⟩
    rw [hnd] at HD hcd1 hdl ⊢
    have HND := Lib.hid hnd
    clear rd hown hb1 HPT hnd
    go_wp2_with fail
    go_loopw [5, 6] (fun v5 v6 wr => ∃ (i : Nat) (cs : List (List Nat)), i ≤ nd ∧ v6 = .int .i64 i ∧ cs.length ≤ i ∧ Hid (wr.ownsRow w1.heap.size 9 1 v5 cs.length (strV cs)) ∧ Hid (CluRel d i cs) ∧ Hid (Below w1.heap.size w1 wr)) (fun _ v6 _ => nd - (intOf v6).toNat)
    case atStart => exact ⟨0, [], Nat.zero_le _, rfl, Nat.le_refl _, World.ownsRow_nil _ _ _ _, .inl ⟨rfl, rfl⟩, Below.refl _ _⟩
    case round =>
      obtain ⟨i, cs, hi, rfl, hcsl, HO, HCR, HBR⟩ := hrel
      have hszw := HBR.out.size
      by_cases hlt : i < nd
      · have hiz : (i : Int) < (nd : Int) := by omega
        obtain ⟨ad, p, rfl, hbl, hp, hcp⟩ := HD.out.at_ hlt
        have hcpr : wr.cell? (ad.add i) = some (.int .i64 (p : Int)) := (HBR.out.cell (by rw [block_of_add]; exact hbl)).trans hcp
        have HP := Lib.hid hp; clear hp hcp
        have HCP : Hid (∀ W, Below w1.heap.size w1 W → W.cell? (ad.add i) = some (.int .i64 (p : Int))) := by
          obtain ⟨ad2, p2, e1, _, hp2, hcp2⟩ := HD.out.at_ hlt
          cases e1
          have : p2 = p := by have := HP.out; rw [hp2] at this; exact Option.some.inj this
          subst this
          exact fun W hW => (hW.cell (by rw [block_of_add]; exact hbl)).trans hcp2
        have HPS : Hid (scalarB (p : Int) = true) := HSC.out p (List.mem_of_getElem? HP.out)
        have hpl := scalar_le HPS.out
        have HEN := Lib.hid fun W => encoded_any p W hpl
        have hel : (strL (encL (p : Int))).size ≤ 4 := by rw [strL_size]; exact (encL_len _).2
        by_cases hi0 : i = 0
        · have hcs : cs = [] := by
            rcases HCR.out with ⟨_, h⟩ | ⟨h, _⟩
            · exact h
            · omega
          subst hcs
          obtain ⟨c2, hc2⟩ : ∃ c2, c2 = [p] := ⟨_, rfl⟩
          have HC2 : Hid (([] : List Nat) ++ [p] = c2) := hc2.symm
          have HCI : Hid (([] : List Nat).length ≤ i) := Nat.zero_le _
          have HRL : Hid (CluRel d (i + 1) (([] : List (List Nat)) ++ [c2])) := by
            have h0 := HP.out
            rw [hi0] at h0 ⊢
            rw [hc2]
            exact CluRel.start h0
          clear hc2
          have he0 : ((i : Int) == 0) = true := beq_iff_eq.2 (by omega)
          have HI0 : Hid (i = 0) := hi0
          go_wp2_with (at_builtin; refine wpList_app1 rfl (.tmp 30) (.tmp 31) 45 rfl w1.heap.size 9 16 (.string .empty) info_string rfl Tryz.underlying45 rfl HO.out rfl rfl (by omega) (by omega) hszw ?_; rintro v7 w2 hown7 hb7 hs7 hk7; clear hk7)
          obtain ⟨g, cap, rfl, _, _⟩ := hown7.form (by omega)
          obtain ⟨k, hk⟩ : ∃ k, k = 0 := ⟨0, rfl⟩
          obtain ⟨n1, hn1⟩ : ∃ n1, n1 = 0 + 1 := ⟨_, rfl⟩
          obtain ⟨x, hx⟩ : ∃ x, strC [] = x := ⟨_, rfl⟩
          have HX := Lib.hid hx
          have HK : Hid (([] : List (List Nat)).length = k) := by show _ = _; rw [hk]; rfl
          have HROW : Hid (w2.ownsRow w1.heap.size 9 1 (.slice (some ⟨g, 0, none⟩) n1 cap) n1 (strV ([] ++ [[]]))) := by
            show World.ownsRow _ _ _ _ _ _ _
            rw [hn1]
            exact hown7
          have HBW : Hid (Below w1.heap.size w1 w2) := HBR.out.trans hb7
          have HCL : Hid ((([] : List (List Nat)) ++ [c2]).length ≤ i + 1) := by show _ ≤ _; simp
          have hn1k : n1 = k + 1 := by omega
          have HN1 : Hid (n1 = k + 1) := hn1k
          have hki : k ≤ i := by omega
          rw [show (List.length ([] : List (List Nat)) + 1) = n1 by rw [hn1]; rfl]
          clear hx hk hown7 hb7 hs7 hn1 hi0 he0
          have hkn : k + 1 = n1 := by omega
          have hcl : w2.cell? ⟨g, k, none⟩ = some (.string x) := by
            rw [HROW.out.cellAt k (by omega)]
            unfold strV
            rw [List.map_append, List.getElem?_append_right (by rw [List.length_map, HK.out]; exact Nat.le_refl _), List.length_map, HK.out, Nat.sub_self, ← HX.out]
            rfl
          have hfl : w2.frozen? ⟨g, k, none⟩ = false := HROW.out.frozenAt k
          have hgl : g < w2.heap.size := (HROW.out.lt g rfl).2
          have hxs : x.size ≤ 4 * i := by
            rw [← HX.out]
            unfold strC
            rw [strL_size]
            exact Nat.le_trans (encS_le ([] : List Nat)) (by have := HCI.out; omega)
          have hcat : x.size + (strL (encL (p : Int))).size ≤ 9223372036854775807 := by omega
          have HCC : Hid (x ++ strL (encL (p : Int)) = strC c2) := by
            refine ba_ext ?_
            rw [← HC2.out]
            unfold strC
            rw [app_data, strL_data, strL_data, ← HX.out, encS_app, encS_one]
            unfold strC
            rw [strL_data]
          have hj1 : wrap64 ((n1 : Int) - 1) = (k : Int) := by unfold wrap64; omega
          have hj2 : (n1 : Int) - 1 = (k : Int) := by omega
          have hj3 : n1 - 1 = k := by omega
          have hj4 : ((n1 : Int) - 1).toNat = k := by omega
          have hj5 : IntKind.i64.wrap ((n1 : Int) - 1) = (k : Int) := by rw [hj2]; exact IntWalk.i64_in _ (by omega)
          have hj6 : IntKind.i64.wrap (k : Int) = (k : Int) := IntWalk.i64_in _ (by omega)
          have hjn : (k : Int) < (n1 : Int) := by omega
          have hjn' : k < n1 := by omega
          have hjA : (0 : Int) ≤ (k : Int) := by omega
          have hcpW : w2.cell? (ad.add i) = some (.int .i64 (p : Int)) := HCP.out _ HBW.out
          have eaddr : (⟨g, 0, none⟩ : Addr).add k = ⟨g, k, none⟩ := by
            unfold Addr.add
            split
            · rename_i h; simp [h]
            · simp
          clear hkn hn1k
          have hcp0 : w2.cell? ad = some (.int .i64 (p : Int)) := by
            have h0 := hcpW
            rw [HI0.out] at h0
            simpa [Addr.add] using h0
          go_region_with ((go_at_call 146; refine (HEN.out _).mono ?_; rintro e w3 ⟨rfl, hb3⟩
                           have hl3 : w3.cell? ⟨g, k, none⟩ = some (.string x) := (hb3.cell hgl).trans hcl
                           have hf3 : w3.frozen? ⟨g, k, none⟩ = false := (hb3.frozen hgl).trans hfl))
          all_goals
            have HBB : Hid (Below w2.heap.size w2 w3) := (Below.refl _ w2).drew.trans hb3
            have hown3 := own_below HROW.out HBB.out
            have hst := own_stored (c' := c2) hown3 HK.out
            have HO4 : Hid ((w3.setCell ⟨g, k, none⟩ (.string (strC c2))).ownsRow w1.heap.size 9 1 (.slice (some ⟨g, 0, none⟩) n1 cap) (([] : List (List Nat)) ++ [c2]).length (strV (([] : List (List Nat)) ++ [c2]))) := by
              have h0 := hst.1
              show World.ownsRow _ _ _ _ _ _ _
              rw [List.length_append, HK.out, List.length_singleton, ← HN1.out]
              exact h0
            have HB4 : Hid (Below w1.heap.size w1 (w3.setCell ⟨g, k, none⟩ (.string (strC c2)))) := (HBW.out.trans (HBB.out.mono HBW.out.size)).trans hst.2
            clear hst hown3 hb3 hl3 hf3
            rw [HCC.out]
            go_wp2
            go_roundw
            case rel => exact ⟨i + 1, ([] : List (List Nat)) ++ [c2], by omega, (by rw [HI0.out]; rfl), HCL.out, HO4, HRL.out, HB4⟩
            case measure => have := HI0.out; simp [intOf]; omega
        · have he0 : ((i : Int) == 0) = false := beq_eq_false_iff_ne.2 (by omega)
          obtain ⟨done, c, hcs, hcl0, hcl1⟩ : ∃ done c, cs = done ++ [c] ∧ c.length ≤ i ∧ clus d = done ++ cluGo c (d.drop i) := by
            rcases HCR.out with ⟨h, _⟩ | ⟨_, h⟩
            · omega
            · exact h
          subst hcs
          have HCL1 := Lib.hid hcl1; clear hcl1
          obtain ⟨mp, hmp⟩ : ∃ b, Hid (mk p = b) := ⟨_, rfl⟩
          have HMK : Hid (Calls Tryz.prog 145 #[.int .i64 (p : Int)] wr fun e w' => e = .returned (.bool mp) ∧ wr = w') := mono_eq (refMark_any p wr) (by rw [← hmp.out]; rfl)
          obtain ⟨m0, hm0⟩ : ∃ m0, (done ++ [c]).length = m0 := ⟨_, rfl⟩
          rw [hm0] at HO hcsl
          have HM0 := Lib.hid hm0
          clear hm0 hi0
          cases mp with
          | false =>
            obtain ⟨c2, hc2⟩ : ∃ c2, c2 = [p] := ⟨_, rfl⟩
            have HC2 : Hid (([] : List Nat) ++ [p] = c2) := hc2.symm
            have HCI : Hid (([] : List Nat).length ≤ i) := Nat.zero_le _
            have HRL : Hid (CluRel d (i + 1) ((done ++ [c]) ++ [c2])) := by
              rw [hc2]
              exact CluRel.base HCL1.out hcl0 HP.out hmp.out
            clear hc2
            go_wp2_with (first
              | (go_at_call 145; refine HMK.out.mono ?_; rintro e w2 ⟨rfl, rfl⟩)
              | (at_builtin; refine wpList_app1 rfl (.tmp 30) (.tmp 31) 45 rfl w1.heap.size 9 16 (.string .empty) info_string rfl Tryz.underlying45 rfl HO.out rfl rfl (by omega) (by omega) hszw ?_; rintro v7 w2 hown7 hb7 hs7 hk7; clear hk7))
            obtain ⟨g, cap, rfl, _, _⟩ := hown7.form (by omega)
            obtain ⟨n1, hn1⟩ : ∃ n1, n1 = m0 + 1 := ⟨_, rfl⟩
            obtain ⟨k, hk⟩ : ∃ k, k = m0 := ⟨_, rfl⟩
            obtain ⟨x, hx⟩ : ∃ x, strC [] = x := ⟨_, rfl⟩
            have HX := Lib.hid hx
            have HK : Hid ((done ++ [c]).length = k) := by show _ = _; rw [hk]; exact HM0.out
            have HROW : Hid (w2.ownsRow w1.heap.size 9 1 (.slice (some ⟨g, 0, none⟩) n1 cap) n1 (strV ((done ++ [c]) ++ [[]]))) := by
              show World.ownsRow _ _ _ _ _ _ _
              rw [hn1]
              unfold strV
              rw [List.map_append]
              exact hown7
            have HBW : Hid (Below w1.heap.size w1 w2) := HBR.out.trans hb7
            have HCL : Hid (((done ++ [c]) ++ [c2]).length ≤ i + 1) := by show _ ≤ _; rw [List.length_append, HM0.out]; simp; omega
            have hn1k : n1 = k + 1 := by omega
            have HN1 : Hid (n1 = k + 1) := hn1k
            have hki : k ≤ i := by omega
            rw [← hn1]
            clear hx hk hown7 hb7 hs7 hn1 he0
            have hkn : k + 1 = n1 := by omega
            have hcl : w2.cell? ⟨g, k, none⟩ = some (.string x) := by
              rw [HROW.out.cellAt k (by omega)]
              unfold strV
              rw [List.map_append, List.getElem?_append_right (by rw [List.length_map, HK.out]; exact Nat.le_refl _), List.length_map, HK.out, Nat.sub_self, ← HX.out]
              rfl
            have hfl : w2.frozen? ⟨g, k, none⟩ = false := HROW.out.frozenAt k
            have hgl : g < w2.heap.size := (HROW.out.lt g rfl).2
            have hxs : x.size ≤ 4 * i := by
              rw [← HX.out]
              unfold strC
              rw [strL_size]
              exact Nat.le_trans (encS_le ([] : List Nat)) (by have := HCI.out; omega)
            have hcat : x.size + (strL (encL (p : Int))).size ≤ 9223372036854775807 := by omega
            have HCC : Hid (x ++ strL (encL (p : Int)) = strC c2) := by
              refine ba_ext ?_
              rw [← HC2.out]
              unfold strC
              rw [app_data, strL_data, strL_data, ← HX.out, encS_app, encS_one]
              unfold strC
              rw [strL_data]
            have hj1 : wrap64 ((n1 : Int) - 1) = (k : Int) := by unfold wrap64; omega
            have hj2 : (n1 : Int) - 1 = (k : Int) := by omega
            have hj3 : n1 - 1 = k := by omega
            have hj4 : ((n1 : Int) - 1).toNat = k := by omega
            have hj5 : IntKind.i64.wrap ((n1 : Int) - 1) = (k : Int) := by rw [hj2]; exact IntWalk.i64_in _ (by omega)
            have hj6 : IntKind.i64.wrap (k : Int) = (k : Int) := IntWalk.i64_in _ (by omega)
            have hjn : (k : Int) < (n1 : Int) := by omega
            have hjn' : k < n1 := by omega
            have hjA : (0 : Int) ≤ (k : Int) := by omega
            have hcpW : w2.cell? (ad.add i) = some (.int .i64 (p : Int)) := HCP.out _ HBW.out
            have eaddr : (⟨g, 0, none⟩ : Addr).add k = ⟨g, k, none⟩ := by
              unfold Addr.add
              split
              · rename_i h; simp [h]
              · simp
            clear hkn hn1k
            go_region_with ((go_at_call 146; refine (HEN.out _).mono ?_; rintro e w3 ⟨rfl, hb3⟩
                             have hl3 : w3.cell? ⟨g, k, none⟩ = some (.string x) := (hb3.cell hgl).trans hcl
                             have hf3 : w3.frozen? ⟨g, k, none⟩ = false := (hb3.frozen hgl).trans hfl))
            all_goals
              have HBB : Hid (Below w2.heap.size w2 w3) := (Below.refl _ w2).drew.trans hb3
              have hown3 := own_below HROW.out HBB.out
              have hst := own_stored (c' := c2) hown3 HK.out
              have HO4 : Hid ((w3.setCell ⟨g, k, none⟩ (.string (strC c2))).ownsRow w1.heap.size 9 1 (.slice (some ⟨g, 0, none⟩) n1 cap) ((done ++ [c]) ++ [c2]).length (strV ((done ++ [c]) ++ [c2]))) := by
                have h0 := hst.1
                show World.ownsRow _ _ _ _ _ _ _
                rw [List.length_append, HK.out, List.length_singleton, ← HN1.out]
                exact h0
              have HB4 : Hid (Below w1.heap.size w1 (w3.setCell ⟨g, k, none⟩ (.string (strC c2)))) := (HBW.out.trans (HBB.out.mono HBW.out.size)).trans hst.2
              clear hst hown3 hb3 hl3 hf3
              rw [HCC.out]
              go_wp2
              go_roundw
              case rel => exact ⟨i + 1, (done ++ [c]) ++ [c2], by omega, by go_num, HCL.out, HO4, HRL.out, HB4⟩
              case measure => simp [intOf]; omega
          | true =>
            obtain ⟨c2, hc2⟩ : ∃ c2, c2 = c ++ [p] := ⟨_, rfl⟩
            have HC2 : Hid (c ++ [p] = c2) := hc2.symm
            have HCI : Hid (c.length ≤ i) := hcl0
            have HRL : Hid (CluRel d (i + 1) (done ++ [c2])) := by
              rw [hc2]
              exact CluRel.mark HCL1.out hcl0 HP.out hmp.out
            clear hc2
            have hm1 : 1 ≤ m0 := by have := HM0.out; simp at this; omega
            obtain ⟨g, cap, rfl, _, _⟩ := HO.out.form (by omega)
            obtain ⟨n1, hn1⟩ : ∃ n1, n1 = m0 := ⟨_, rfl⟩
            obtain ⟨k, hk⟩ : ∃ k, k + 1 = m0 := ⟨m0 - 1, by omega⟩
            obtain ⟨x, hx⟩ : ∃ x, strC c = x := ⟨_, rfl⟩
            have HX := Lib.hid hx
            have HK : Hid (done.length = k) := by show _ = _; have := HM0.out; simp at this; omega
            have HROW : Hid (wr.ownsRow w1.heap.size 9 1 (.slice (some ⟨g, 0, none⟩) n1 cap) n1 (strV (done ++ [c]))) := by
              show World.ownsRow _ _ _ _ _ _ _
              rw [hn1]
              exact HO.out
            have HBW : Hid (Below w1.heap.size w1 wr) := HBR.out
            have HCL : Hid ((done ++ [c2]).length ≤ i + 1) := by show _ ≤ _; rw [List.length_append, HK.out]; simp; omega
            have hn1k : n1 = k + 1 := by omega
            have HN1 : Hid (n1 = k + 1) := hn1k
            have hki : k ≤ i := by omega
            rw [← hn1]
            clear hx hk hn1
            have hkn : k + 1 = n1 := by omega
            have hcl : wr.cell? ⟨g, k, none⟩ = some (.string x) := by
              rw [HROW.out.cellAt k (by omega)]
              unfold strV
              rw [List.map_append, List.getElem?_append_right (by rw [List.length_map, HK.out]; exact Nat.le_refl _), List.length_map, HK.out, Nat.sub_self, ← HX.out]
              rfl
            have hfl : wr.frozen? ⟨g, k, none⟩ = false := HROW.out.frozenAt k
            have hgl : g < wr.heap.size := (HROW.out.lt g rfl).2
            have hxs : x.size ≤ 4 * i := by
              rw [← HX.out]
              unfold strC
              rw [strL_size]
              exact Nat.le_trans (encS_le c) (by have := HCI.out; omega)
            have hcat : x.size + (strL (encL (p : Int))).size ≤ 9223372036854775807 := by omega
            have HCC : Hid (x ++ strL (encL (p : Int)) = strC c2) := by
              refine ba_ext ?_
              rw [← HC2.out]
              unfold strC
              rw [app_data, strL_data, strL_data, ← HX.out, encS_app, encS_one]
              unfold strC
              rw [strL_data]
            have hj1 : wrap64 ((n1 : Int) - 1) = (k : Int) := by unfold wrap64; omega
            have hj2 : (n1 : Int) - 1 = (k : Int) := by omega
            have hj3 : n1 - 1 = k := by omega
            have hj4 : ((n1 : Int) - 1).toNat = k := by omega
            have hj5 : IntKind.i64.wrap ((n1 : Int) - 1) = (k : Int) := by rw [hj2]; exact IntWalk.i64_in _ (by omega)
            have hj6 : IntKind.i64.wrap (k : Int) = (k : Int) := IntWalk.i64_in _ (by omega)
            have hjn : (k : Int) < (n1 : Int) := by omega
            have hjn' : k < n1 := by omega
            have hjA : (0 : Int) ≤ (k : Int) := by omega
            have hcpW : wr.cell? (ad.add i) = some (.int .i64 (p : Int)) := HCP.out _ HBW.out
            have eaddr : (⟨g, 0, none⟩ : Addr).add k = ⟨g, k, none⟩ := by
              unfold Addr.add
              split
              · rename_i h; simp [h]
              · simp
            clear hkn hn1k
            go_wp2_with (go_at_call 145; refine HMK.out.mono ?_; rintro e w2 ⟨rfl, rfl⟩)
            clear he0
            go_region_with ((go_at_call 146; refine (HEN.out _).mono ?_; rintro e w3 ⟨rfl, hb3⟩
                             have hl3 : w3.cell? ⟨g, k, none⟩ = some (.string x) := (hb3.cell hgl).trans hcl
                             have hf3 : w3.frozen? ⟨g, k, none⟩ = false := (hb3.frozen hgl).trans hfl))
            all_goals
              have HBB : Hid (Below wr.heap.size wr w3) := (Below.refl _ wr).drew.trans hb3
              have hown3 := own_below HROW.out HBB.out
              have hst := own_stored (c' := c2) hown3 HK.out
              have HO4 : Hid ((w3.setCell ⟨g, k, none⟩ (.string (strC c2))).ownsRow w1.heap.size 9 1 (.slice (some ⟨g, 0, none⟩) n1 cap) (done ++ [c2]).length (strV (done ++ [c2]))) := by
                have h0 := hst.1
                show World.ownsRow _ _ _ _ _ _ _
                rw [List.length_append, HK.out, List.length_singleton, ← HN1.out]
                exact h0
              have HB4 : Hid (Below w1.heap.size w1 (w3.setCell ⟨g, k, none⟩ (.string (strC c2)))) := (HBW.out.trans (HBB.out.mono HBW.out.size)).trans hst.2
              clear hst hown3 hb3 hl3 hf3
              rw [HCC.out]
              go_wp2
              go_roundw
              case rel => exact ⟨i + 1, done ++ [c2], by omega, by go_num, HCL.out, HO4, HRL.out, HB4⟩
              case measure => simp [intOf]; omega
      · obtain rfl : nd = i := by omega
        have hiz : ¬ (nd : Int) < (nd : Int) := by omega
        have HFIN : Hid (clus d = cs) := by
          have := HCR.out
          rw [← HND.out] at this
          exact this.fin
        go_wp2
        go_ret
        refine ⟨_, rfl, ?_, HB1.out.trans (HBR.out.mono HB1.out.size)⟩
        rw [HFIN.out]
        have h6 := own_base HO.out HB1.out.size
        simpa [strV, List.map_map, Function.comp_def] using h6
end Go.Proofs.YthcabnfcgjnlnaaGreatDoor
namespace Go.Proofs.YthcabnfcgjnlnaaGreatDoor.Lay
open Go.Proofs.YthcabnfcgjnlnaaGreatDoor Go.Proofs.YthcabnfcgjnlnaaGreatDoor.Ru
def partR (L : List (List ByteArray)) (g : Nat × Nat) : List (List ByteArray) := L.map fun r => (List.range (g.2 - g.1)).map fun j => cellB r (g.1 + j)
theorem sp_zero : sp 0 = [] := rfl
theorem sp_snoc (n : Nat) : sp (n + 1) = sp n ++ [32] := by unfold sp; exact List.replicate_succ'
end Go.Proofs.YthcabnfcgjnlnaaGreatDoor.Lay
namespace Go.Proofs.YthcabnfcgjnlnaaGreatDoor
open Go.RowKit Go.Shelf Ru Lay
set_option maxHeartbeats 1000000 in
theorem refWidth_any (s : ByteArray) (w : World) (hs : s.size ≤ 1099511627) :
  Calls Tryz.prog 98 #[.string s] w fun e w' => e = .returned (.int .i64 (widB s : Int)) ∧ Below w.heap.size w w' := by
 have HP := Lib.hid (points02_any s w (by omega))
 have HC := Lib.hid fun W => refClusters_any s W (by omega)
 obtain ⟨o, ho⟩ : ∃ o, points s.data.toList = o := ⟨_, rfl⟩
 rw [ho] at HP
 cases o with
 | none =>
  have HW : Hid ((s.size : Int) = (widB s : Int)) := by show _ = _; rw [widB_none ho]
  clear ho
  go_enter Tryz.func98, Tryz.ntmps98
  go_wp2_with fail
  refine HP.out.mono ?_
  intro e w1 hpp
  obtain ⟨A1, n1, c1, rfl, _, _, hb⟩ := hpp.val
  have HB1 : Hid (Below w.heap.size w w1) := hb
  clear hpp hb
  go_wp2
  go_ret
  exact ⟨ret_i64 HW.out, HB1.out⟩
 | some d =>
  have HW : Hid (((clusB s.data.toList).length : Int) = (widB s : Int)) := by show _ = _; rw [widB_some ho]
  clear ho
  go_enter Tryz.func98, Tryz.ntmps98
  go_wp2_with fail
  refine HP.out.mono ?_
  intro e w1 hpp
  obtain ⟨A1, n1, c1, rfl, _, _, hb⟩ := hpp.val
  have HB1 : Hid (Below w.heap.size w w1) := hb
  clear hpp hb
  go_wp2_with fail
  refine (HC.out _).mono ?_
  rintro e w2 ⟨v, rfl, hown, hb⟩
  obtain ⟨A2, c2, rfl, _, _, _⟩ := own_form hown
  have HB2 : Hid (Below w.heap.size w w2) := HB1.out.trans (hb.mono HB1.out.size)
  clear hown hb
  go_wp2
  go_ret
  exact ⟨ret_i64 HW.out, HB2.out⟩
theorem pad_go {s : ByteArray} {n : Int} {k j : Nat} (hk : widB s = k) (h1 : (k : Int) + j = n) (h2 : n ≤ 4000) : s ++ strL (sp j) = padB s n := by
 refine ba_ext ?_
 rw [app_data, strL_data]
 unfold padB
 rw [strL_data]
 unfold pad
 rw [show wid s.data.toList = k from hk]
 by_cases h : (k : Int) < n
 ·rw [if_pos ⟨h, h2⟩, show n - (k : Int) = (j : Int) by omega]
  rfl
 ·rw [if_neg (fun hh => h hh.1), show j = 0 by omega, sp_zero, List.append_nil]
theorem sp_next (s : ByteArray) (j : Nat) : s ++ strL (sp j) ++ ⟨#[32]⟩ = s ++ strL (sp (j + 1)) := by
 refine ba_ext ?_
 rw [app_data, app_data, app_data, strL_data, strL_data, sp_snoc, List.append_assoc]
set_option maxHeartbeats 1000000 in
theorem refPad_any (s : ByteArray) (n : Int) (w : World) (hs : s.size ≤ 1099511627) :
    Calls Tryz.prog 99 #[.string s, .int .i64 n] w fun e w' => e = .returned (.string (padB s n)) ∧ Below w.heap.size w w' := by
  have HW := Lib.hid (refWidth_any s w hs)
  have hwl := widB_le s
  obtain ⟨k, hk⟩ : ∃ k, widB s = k := ⟨_, rfl⟩
  have HK := Lib.hid hk
  rw [hk] at HW hwl
  clear hk
  by_cases h2 : n ≤ 4000
  · have hd2 : decide (4000 < n) = false := decide_eq_false (by omega)
    have hd3 : ¬ (4000 < n) := by omega
    go_enter Tryz.func99, Tryz.ntmps99
    go_wp2_with fail
    refine HW.out.mono ?_
    rintro e w1 ⟨rfl, hb⟩
    have HB1 : Hid (Below w.heap.size w w1) := hb
    clear hb
    go_wp2_with fail
    go_loop [0, 5] (fun vs vi => ∃ j : Nat, vi = .int .i64 ((k : Int) + (j : Int)) ∧ vs = .string (s ++ strL (sp j)) ∧ (j = 0 ∨ (k : Int) + j ≤ n)) (fun _ vi => (4001 - intOf vi).toNat)
    case atStart => exact ⟨0, by simp, by rw [sp_zero]; exact congrArg Value.string (ba_ext (by rw [app_data, strL_data, List.append_nil])), .inl rfl⟩
    case round =>
      obtain ⟨j, rfl, rfl, hj⟩ := hrel
      by_cases hlt : (k : Int) + (j : Int) < n
      · have HN := Lib.hid (sp_next s j)
        have hsz : (s ++ strL (sp j)).size ≤ s.size + 4000 := by
          rw [Lib.size_eq, app_data, List.length_append, strL_data, sp_len, ← Lib.size_eq]
          omega
        obtain ⟨x, hx⟩ : ∃ x, s ++ strL (sp j) = x := ⟨_, rfl⟩
        rw [hx] at HN hsz ⊢
        clear hx
        have hcat : x.size + (⟨#[32]⟩ : ByteArray).size ≤ 9223372036854775807 := by
          have : (⟨#[32]⟩ : ByteArray).size = 1 := rfl
          omega
        go_wp2
        go_round
        case rel => exact ⟨j + 1, by push_cast; first | rfl | (congr 1; omega), by rw [HN.out], .inr (by push_cast; omega)⟩
        case measure => simp [intOf]; omega
      · have HRES : Hid (s ++ strL (sp j) = padB s n) := by
          show _ = _
          by_cases he : (k : Int) + j = n
          · exact pad_go HK.out he h2
          · rw [padB_id (.inr (by rw [HK.out]; omega)), show j = 0 by omega, sp_zero]
            exact ba_ext (by rw [app_data, strL_data, List.append_nil])
        go_wp2
        go_ret
        exact ⟨ret_str HRES.out, HB1.out⟩
  · have hd2 : decide (4000 < n) = true := decide_eq_true (by omega)
    have hd3 : 4000 < n := by omega
    have HRES : Hid (s = padB s n) := (padB_id (.inl (by omega))).symm
    go_enter Tryz.func99, Tryz.ntmps99
    go_wp2
    go_ret
    exact ⟨ret_str HRES.out, Below.refl _ _⟩
end Go.Proofs.YthcabnfcgjnlnaaGreatDoor
namespace Go.Proofs.YthcabnfcgjnlnaaGreatDoor
open Go.RowKit Ru Lay
set_option maxHeartbeats 400000 in
theorem cell_any (A : Option Addr) (n c : Nat) (r : List ByteArray) (k : Nat) (w : World) (hr : SR w w.heap.size A n r) (hn : n ≤ 9223372036854775807) (hk : k ≤ 9223372036854775807) :
  Calls Tryz.prog 75 #[.slice A n c, .int .i64 (k : Int)] w fun e w' => e = .returned (.string (cellB r k)) ∧ w = w' := by
 have hln := hr.len
 by_cases hlt : k < n
 ·obtain ⟨ad, x, rfl, _, hx, hcx⟩ := hr.at_ hlt
  have HX : Hid (x = cellB r k) := (cellB_some hx).symm
  clear hx hln
  have hkz : (k : Int) < (n : Int) := by omega
  go_enter Tryz.func75, Tryz.ntmps75
  go_wp2
  go_ret
  exact ⟨ret_str HX.out, rfl⟩
 ·have HX : Hid (⟨#[]⟩ = cellB r k) := (cellB_none (by omega)).symm
  clear hln
  have hkz : ¬ (k : Int) < (n : Int) := by omega
  go_enter Tryz.func75, Tryz.ntmps75
  go_wp2
  go_ret
  exact ⟨ret_str HX.out, rfl⟩
end Go.Proofs.YthcabnfcgjnlnaaGreatDoor
namespace Go.Proofs.YthcabnfcgjnlnaaGreatDoor
open Go.RowKit Ru Lay
attribute [local go_sem ↓] Go.wp_at_zero Go.wp_at_succ
theorem made_zeros (n : Nat) : (madeCells (Value.int .i64 0).cells (n * 1)).toList = intV (colsG n [] [] 0) := by
 unfold intV
 rw [colsG_zero, List.map_map]
 refine List.ext_getElem? fun k => ?_
 by_cases hk : k < n
 ·rw [List.getElem?_map, List.getElem?_range hk]
  simp [madeCells, hk, Value.cells, colAt, Nat.mod_one]
 ·have h1 : (madeCells (Value.int .i64 0).cells (n * 1)).toList.length = n := by rw [Array.length_toList, size_madeCells, Nat.mul_one]
  rw [List.getElem?_eq_none (by rw [h1]; omega), List.getElem?_eq_none (by simp; omega)]
def colsN (m : Nat) (L : List (List ByteArray)) : List Int := (List.range m).map fun k => (colAt L k : Int)
theorem colsN_zero (m : Nat) (L : List (List ByteArray)) (r : List ByteArray) : colsG m L r 0 = colsN m L := colsG_zero m L r
theorem colsN_end {m : Nat} {L : List (List ByteArray)} {r : List ByteArray} {j : Nat} (h : r.length ≤ j) : colsG m L r j = colsN m (L ++ [r]) := colsG_end h
set_option maxHeartbeats 4000000 in
set_option maxRecDepth 100000 in
theorem refColumns_any (A : Option Addr) (n c : Nat) (L : List (List ByteArray)) (w : World) (hL : RowsC w w.heap.size A n L) (hz : SzL L) :
    Calls Tryz.prog 74 #[.slice A n c] w fun e w' => ∃ v, e = .returned v ∧ OwnI w' w.heap.size v (cols L) ∧ Below w.heap.size w w' := by
  have HL := Lib.hid hL
  have HZ := Lib.hid hz
  have HLN := Lib.hid hL.len
  have hn : n ≤ 100000 := by have := hL.len; have := hz.1; omega
  clear hL hz
  obtain ⟨i0, hinf, hz0, hz1, hz2⟩ := info_parts info_int2
  go_enter Tryz.func74, Tryz.ntmps74
  go_wp2_with fail
  go_loop [3, 4] (fun v3 v4 => ∃ i : Nat, i ≤ n ∧ v4 = .int .i64 i ∧ v3 = .int .i64 (nmax (L.take i) : Int)) (fun _ v4 => n - (intOf v4).toNat)
  case atStart => exact ⟨0, Nat.zero_le _, rfl, rfl⟩
  case round =>
    obtain ⟨i, hi, rfl, rfl⟩ := hrel
    by_cases hlt : i < n
    · have hiz : (i : Int) < (n : Int) := by omega
      obtain ⟨ad, r, RA, rn, rc, rfl, hadb, hr, hcr, hsr, _, _⟩ := HL.out.at_ hlt
      have HNX : Hid (max (nmax (L.take i) : Int) (rn : Int) = (nmax (L.take (i + 1)) : Int)) := by
        show _ = _
        rw [take_atG hr, nmax_snoc, hsr.len]
        omega
      clear hr hsr
      go_wp2
      go_round
      case rel => exact ⟨i + 1, by omega, by go_num, by rw [HNX.out]⟩
      case measure => simp [intOf]; omega
    · obtain rfl : n = i := by omega
      have hjz : ¬ (n : Int) < (n : Int) := by omega
      have hNM := HZ.out.nmax
      have e1 : L.take n = L := List.take_of_length_le (by rw [HLN.out]; exact Nat.le_refl _)
      rw [e1]
      obtain ⟨m, hm⟩ : ∃ m, nmax L = m := ⟨_, rfl⟩
      have HM := Lib.hid hm
      rw [hm] at hNM ⊢
      clear hm e1
      go_wp2_with (at_make; refine wpList_make_full _ rfl (.tmp 21) (.tmp 21) 32 rfl w.heap.size 3 i0 (.int .i64 0) 1 Tryz.underlying32 hinf hz0 hz1 .i64 .i64 _ _ m rfl rfl rfl rfl (by rw [hz2]; omega) (by unfold maxLen; omega) (Nat.le_refl _) ?_; intro w1 hown1 hgr1)
      rw [made_zeros] at hown1
      have HO1 : Hid (OwnI w1 w.heap.size (.slice (some ⟨w.heap.size, 0, none⟩) m m) (colsN m (L.take 0))) := by
        show World.ownsRow _ _ _ _ _ _ _
        rw [List.take_zero, ← colsN_zero m [] [], colsG_len]
        exact hown1
      have HB1 : Hid (Below w.heap.size w w1) := (Below.refl _ w).grown hgr1 (Nat.le_refl _) (fun r e => by cases e)
      obtain ⟨vo, hvo⟩ : ∃ vo, Value.slice (some ⟨w.heap.size, 0, none⟩) m m = vo := ⟨_, rfl⟩
      rw [hvo] at HO1 ⊢
      clear hown1 hgr1 hvo
      go_loopw [6, 7] (fun v6 _ wr => ∃ i : Nat, i ≤ n ∧ v6 = .int .i64 i ∧ Hid (OwnI wr w.heap.size vo (colsN m (L.take i))) ∧ Hid (Below w.heap.size w wr)) (fun v6 _ _ => n - (intOf v6).toNat)
      case atStart => exact ⟨0, Nat.zero_le _, rfl, HO1, HB1⟩
      case round =>
        clear HO1 HB1
        obtain ⟨i, hi, rfl, HO, HB⟩ := hrel
        obtain ⟨w0, hw0⟩ : ∃ w0, wr = w0 := ⟨_, rfl⟩
        rw [hw0] at HO HB ⊢
        clear hw0
        by_cases hlt : i < n
        · have hiz : (i : Int) < (n : Int) := by omega
          obtain ⟨ad, r, RA, rn, rc, rfl, hadb, hr, hcr, hsr, _, _⟩ := HL.out.at_ hlt
          have HCR : Hid (∀ W, Below w.heap.size w W → W.cell? (ad.add i) = some (.slice RA rn rc)) := fun W hW => (hW.cell (by rw [block_of_add]; exact hadb)).trans hcr
          have HSR := Lib.hid hsr
          have HRN : Hid (r.length = rn) := hsr.len
          have hrn : rn ≤ 100000 := by have := HRN.out; have := (HZ.out.row hr).1; omega
          have HSZ := Lib.hid (HZ.out.row hr)
          obtain ⟨Lt, hLt⟩ : ∃ Lt, L.take i = Lt := ⟨_, rfl⟩
          have HNX : Hid (L.take (i + 1) = Lt ++ [r]) := by show _ = _; rw [take_atG hr, hLt]
          have HRM : Hid (rn ≤ m) := by show _ ≤ _; rw [← HM.out, ← HRN.out]; exact le_nmax (List.mem_of_getElem? hr)
          rw [hLt, ← colsN_zero m Lt r] at HO
          have HI := Lib.hid hlt
          have hix : (i : Int) < (n : Int) := hiz
          have hiA : (0 : Int) ≤ (i : Int) := by omega
          clear hcr hsr hr hLt
          go_wp2_with fail
          go_loopw [7] (fun v7 w1 => ∃ j : Nat, j ≤ m ∧ v7 = .int .i64 j ∧ Hid (OwnI w1 w.heap.size vo (colsG m Lt r j)) ∧ Hid (Below w.heap.size w w1)) (fun v7 _ => m - (intOf v7).toNat)
          case atStart => exact ⟨0, Nat.zero_le _, rfl, HO, HB⟩
          case round =>
            clear HO HB
            obtain ⟨j, hj, rfl, HO2, HBW⟩ := hrel
            obtain ⟨WW, hWW⟩ : ∃ WW, WW = wr := ⟨_, rfl⟩
            rw [← hWW] at HO2 HBW ⊢
            clear hWW
            by_cases hjl : j < m
            · have HJM : Hid (j < m) := hjl
              obtain ⟨s, hs⟩ : ∃ s, cellB r j = s := ⟨_, rfl⟩
              have hss := HSZ.out.cellB j
              have HCE := Lib.hid fun W (hb : Below w.heap.size w W) => cell_any RA rn rc r j W (SR.on HSR.out hb) (by omega) (by omega)
              have HWD := Lib.hid fun W => refWidth_any s W (by rw [← hs]; omega)
              have HSC := Lib.hid hs
              rw [hs] at HCE hss
              have hcr0 := HCR.out WW HBW.out
              clear hs
              have hlx : (colsG m Lt r j)[j]? = some (colAt Lt j : Int) := by rw [colsG_at HJM.out, if_neg (by omega)]
              obtain ⟨g, cap, hv, hg1, hgl, hcl, hfl⟩ := HO2.out.at_ hlx
              have hml : (colsG m Lt r j).length = m := colsG_len _ _ _ _
              rw [hml] at hv
              first | subst hv | cases hv
              have HX : Hid ((colsG m Lt r j).set j (max (colAt Lt j : Int) (widB s : Int)) = colsG m Lt r (j + 1)) := by
                have h0 := colsG_set (n := m) (L := Lt) (r := r) (j := j) HJM.out
                rw [HSC.out] at h0
                exact h0
              obtain ⟨x, hx⟩ : ∃ x : Int, (colAt Lt j : Int) = x := ⟨_, rfl⟩
              rw [hx] at hcl HX
              obtain ⟨y, hy⟩ : ∃ y : Int, (widB s : Int) = y := ⟨_, rfl⟩
              rw [hy] at HWD HX
              have hjA : (0 : Int) ≤ (j : Int) := by omega
              have hjm := HJM.out
              have hjmz : (j : Int) < (m : Int) := by omega
              have HML := Lib.hid hml
              clear hlx hml hx hy
              have eaddr : (⟨g, 0, none⟩ : Addr).add j = ⟨g, j, none⟩ := by
                unfold Addr.add
                split
                · rename_i h; simp [h]
                · simp
              go_wp2_with fail
              go_region_with ((first
                | (go_at_call 75; refine (HCE.out _ (HBW.out.drew)).mono ?_; rintro e w2 ⟨rfl, rfl⟩)
                | (go_at_call 98; refine (HWD.out _).mono ?_; rintro e w3 ⟨rfl, hb3⟩
                   have hl3 : w3.cell? ⟨g, j, none⟩ = some (.int .i64 x) := (hb3.cell hgl).trans hcl
                   have hf3 : w3.frozen? ⟨g, j, none⟩ = false := (hb3.frozen hgl).trans hfl)))
              all_goals
                have HBB : Hid (Below WW.heap.size WW w3) := (Below.refl _ WW).drew.trans hb3
                have hown3 := HO2.out.on HBB.out
                have hst := hown3.set HML.out.symm j (max x y)
                rw [HX.out] at hst
                have HO4 := Lib.hid hst.1
                have HB4 : Hid (Below w.heap.size w (w3.setCell ⟨g, j, none⟩ (.int .i64 (max x y)))) := (HBW.out.trans (HBB.out.mono HBW.out.size)).trans hst.2
                clear hst hown3 hb3 hl3 hf3
                go_wp2
                go_roundw
                case rel => exact ⟨j + 1, by omega, by go_num, HO4, HB4⟩
                case measure => simp [intOf]; omega
            · obtain rfl : m = j := by omega
              have hjz : ¬ (m : Int) < (m : Int) := by omega
              have hcc : colsG m Lt r m = colsN m (L.take (i + 1)) := by rw [HNX.out]; exact colsN_end (by have := HRN.out; have := HRM.out; omega)
              have h0 := HO2.out
              rw [hcc] at h0
              have HO5 := Lib.hid h0
              clear hcc h0
              have hi1 : i + 1 ≤ n := HI.out
              go_wp2
              go_roundw
              case rel => exact ⟨i + 1, hi1, by go_num, HO5, HBW⟩
              case measure => have := HI.out; simp [intOf]; omega
        · obtain rfl : n = i := by omega
          have hjz : ¬ (n : Int) < (n : Int) := by omega
          have h0 := HO.out
          rw [List.take_of_length_le (by rw [HLN.out]; exact Nat.le_refl _)] at h0
          have h1 : colsN m L = cols L := by rw [← HM.out]; rfl
          rw [h1] at h0
          have HO5 := Lib.hid h0
          clear h0 h1
          go_wp2
          go_ret
          exact ⟨_, rfl, HO5.out, HB.out⟩
theorem trimR_blank (l : List UInt8) : trimR (l ++ [32]) = trimR l := by
 unfold trimR
 rw [List.reverse_append, List.reverse_singleton, List.singleton_append, List.dropWhile_cons_of_pos (p := fun b : UInt8 => b == 32) (by rfl)]
theorem trimR_none (l : List UInt8) {b : UInt8} (h : (b == 32) = false) : trimR (l ++ [b]) = l ++ [b] := by
 unfold trimR
 rw [List.reverse_append, List.reverse_singleton, List.singleton_append, List.dropWhile_cons_of_neg (p := fun b : UInt8 => b == 32) (by rw [h]; simp)]
 simp
theorem ba_snoc {t : ByteArray} {m : Nat} (h : t.size = m + 1) (hm : m < t.size) : t.data.toList = (t.extract 0 m).data.toList ++ [t[m]] := by
 have h1 : t.data.toList.length = m + 1 := by rw [← Lib.size_eq]; exact h
 have h2 : t.data.toList = t.data.toList.take (m + 1) := by rw [List.take_of_length_le (by omega)]
 conv => lhs; rw [h2, List.take_succ_eq_append_getElem (by omega)]
 congr 1
 rw [Lib.extract_data]
 simp
set_option maxHeartbeats 1000000 in
theorem refTrim_any (s : ByteArray) (w : World) (hs : s.size ≤ 9223372036854775807) :
  Calls Tryz.prog 100 #[.string s] w fun e w' => e = .returned (.string (strL (trimR s.data.toList))) ∧ w = w' := by
 go_enter Tryz.func100, Tryz.ntmps100
 go_wp2_with fail
 go_loopg [0] s.size (fun g v0 wr => ∃ t : ByteArray, v0 = .string t ∧ t.size ≤ g ∧ t.size ≤ s.size ∧ Hid (trimR t.data.toList = trimR s.data.toList) ∧ Hid (w = wr))
 case atStart => exact ⟨s, rfl, Nat.le_refl _, Nat.le_refl _, rfl, rfl⟩
 case round =>
  obtain ⟨t, rfl, hg, hts, HT, HW⟩ := hrel
  by_cases h0 : 0 < t.size
  ·obtain ⟨m, hm⟩ : ∃ m, t.size = m + 1 := ⟨t.size - 1, by omega⟩
   have hmt : m < t.size := by omega
   have HSN := Lib.hid (ba_snoc hm hmt)
   have hex : (t.extract 0 m).size = m := by rw [Lib.size_eq, Lib.extract_data]; simp; omega
   have hj1 : (t.size : Int) - 1 = (m : Int) := by omega
   have hj2 : IntKind.i64.wrap ((t.size : Int) - 1) = (m : Int) := by rw [hj1]; exact IntWalk.i64_in _ (by omega)
   have hj3 : wrap64 ((t.size : Int) - 1) = (m : Int) := by unfold wrap64; omega
   have hj4 : t.size - 1 = m := by omega
   have hmA : (0 : Int) ≤ (m : Int) := by omega
   have hmz : (m : Int) < (t.size : Int) := by omega
   have hmz2 : (m : Int) ≤ (t.size : Int) := by omega
   have hd0 : (0 : Int) < (t.size : Int) := by omega
   have HM := Lib.hid hm
   clear hm
   obtain ⟨b, hb⟩ : ∃ b, t[m] = b := ⟨_, rfl⟩
   have HBT := Lib.hid hb
   by_cases hbl : (b == 32) = true
   ·have hb32 : b = 32 := beq_iff_eq.1 hbl
    have he : ((t[m].toNat : Int) == 32) = true := by rw [hb, hb32]; rfl
    have HT2 : Hid (trimR (t.extract 0 m).data.toList = trimR s.data.toList) := by
     show _ = _
     rw [← HT.out, HSN.out, hb, hb32, trimR_blank]
    have HEX := Lib.hid hex
    clear hb hex hbl hb32
    go_wp2
    go_roundg m
    case measure => have := HM.out; omega
    case rel => exact ⟨_, rfl, Nat.le_of_eq HEX.out, by rw [HEX.out]; omega, HT2, HW⟩
   ·have hbl2 : (b == 32) = false := by simpa using hbl
    have he : ((t[m].toNat : Int) == 32) = false := by
     rw [hb]
     refine beq_eq_false_iff_ne.2 fun hh => ?_
     have : b = 32 := by
      refine UInt8.toNat_inj.1 ?_
      have h7 : (32 : UInt8).toNat = 32 := rfl
      omega
     rw [this] at hbl2
     cases hbl2
    have HR : Hid (t = strL (trimR s.data.toList)) := by
     show _ = _
     refine ba_ext ?_
     rw [strL_data, ← HT.out, HSN.out, hb, trimR_none _ hbl2]
    clear hb hex hbl hbl2
    go_wp2
    go_ret
    exact ⟨ret_str HR.out, HW.out⟩
  ·have hd0 : ¬ (0 : Int) < (t.size : Int) := by omega
   have HR : Hid (t = strL (trimR s.data.toList)) := by
    show _ = _
    have h1 : t.data.toList = [] := by
     refine List.eq_nil_of_length_eq_zero ?_
     rw [← Lib.size_eq]
     omega
    refine ba_ext ?_
    rw [strL_data, ← HT.out, h1]
    rfl
   go_wp2
   go_ret
   exact ⟨ret_str HR.out, HW.out⟩
set_option maxHeartbeats 4000000 in
set_option maxRecDepth 100000 in
theorem refAlign_any (A : Option Addr) (n c : Nat) (L : List (List ByteArray)) (w : World) (hL : RowsC w w.heap.size A n L) (hz : SzL L) :
  Calls Tryz.prog 76 #[.slice A n c] w fun e w' => ∃ v, e = .returned v ∧ OwnS w' w.heap.size v (alignL L) ∧ Below w.heap.size w w' := by
 have HL := Lib.hid hL
 have HZ := Lib.hid hz
 have HLN := Lib.hid hL.len
 have hn : n ≤ 100000 := by have := hL.len; have := hz.1; omega
 have HCO := Lib.hid (refColumns_any A n c L w hL hz)
 have hnm := hz.nmax
 clear hL hz
 go_enter Tryz.func76, Tryz.ntmps76
 go_wp2_with fail
 refine HCO.out.mono ?_
 rintro e wc ⟨v, rfl, hown, hb⟩
 obtain ⟨CA, cc, rfl, _, _, hir⟩ := hown.form
 rw [cols_len] at hir ⊢
 have HCR := Lib.hid hir
 have HBC := Lib.hid hb
 obtain ⟨N, hN⟩ : ∃ N, nmax L = N := ⟨_, rfl⟩
 have HN := Lib.hid hN
 rw [hN] at hnm HCR ⊢
 clear hir hb hown hN HCO
 go_wp2_with fail
 go_loopw [3, 5] (fun v3 v5 wr => ∃ i : Nat, i ≤ n ∧ v5 = .int .i64 i ∧ Hid (OwnS wr wc.heap.size v3 ((L.take i).map fun r => lineL (cols L) r)) ∧ Hid (Below wc.heap.size wc wr)) (fun _ v5 _ => n - (intOf v5).toNat)
 case atStart => exact ⟨0, Nat.zero_le _, rfl, (by rw [List.take_zero]; exact OwnS.nil _ _), Below.refl _ _⟩
 case round =>
  obtain ⟨i, hi, rfl, HO, HBR⟩ := hrel
  obtain ⟨w0, hw0⟩ : ∃ w0, wr = w0 := ⟨_, rfl⟩
  rw [hw0] at HO HBR ⊢
  clear hw0
  by_cases hlt : i < n
  ·have hiz : (i : Int) < (n : Int) := by omega
   have hiA : (0 : Int) ≤ (i : Int) := by omega
   obtain ⟨ad, r, RA, rn, rc, rfl, hadb, hr, hcr, hsr, _, _⟩ := HL.out.at_ hlt
   have HCRW : Hid (∀ W, Below wc.heap.size wc W → W.cell? (ad.add i) = some (.slice RA rn rc)) := fun W hW => ((HBC.out.trans (hW.mono HBC.out.size)).cell (by rw [block_of_add]; exact hadb)).trans hcr
   have HR := Lib.hid hr
   have HSR := Lib.hid hsr
   have HRN : Hid (r.length = rn) := hsr.len
   have hrn : rn ≤ 100000 := by have := HRN.out; have := (HZ.out.row hr).1; omega
   have HSZ := Lib.hid (HZ.out.row hr)
   have HNX : Hid ((L.take (i + 1)).map (fun r => lineL (cols L) r) = ((L.take i).map fun r => lineL (cols L) r) ++ [lineL (cols L) r]) := by show _ = _; rw [take_atG hr, List.map_append]; rfl
   have hll : ((L.take i).map fun r => lineL (cols L) r).length ≤ i := by rw [List.length_map, List.length_take]; omega
   obtain ⟨ll, hlq⟩ : ∃ ll, ((L.take i).map fun r => lineL (cols L) r) = ll := ⟨_, rfl⟩
   rw [hlq] at HO HNX hll
   have HI := Lib.hid hlt
   clear hcr hsr hr hlq
   go_wp2_with fail
   have HBR0 := HBR
   have HO0 := HO
   go_loopw [6, 7] (fun v6 v7 wi => ∃ (k : Nat) (s : ByteArray), k ≤ N ∧ v7 = .int .i64 k ∧ v6 = .string s ∧ Hid (s.data.toList = lineG (cols L) r k) ∧ Hid (Below w0.heap.size w0 wi)) (fun _ v7 _ => N - (intOf v7).toNat)
   case atStart => exact ⟨0, ⟨#[]⟩, Nat.zero_le _, rfl, rfl, rfl, Below.refl _ _⟩
   case round =>
    obtain ⟨k, s, hk, rfl, rfl, HS, HBB⟩ := hrel
    obtain ⟨wi, hwi⟩ : ∃ wi, wi = wr := ⟨_, rfl⟩
    rw [← hwi] at HBB ⊢
    clear hwi
    have hlk : s.size ≤ 10400100000 := by have := lineG_len (cols L) r HSZ.out k; rw [← HS.out, ← Lib.size_eq] at this; omega
    by_cases hkl : k < N
    ·have hkz : (k : Int) < (N : Int) := by omega
     have hkA : (0 : Int) ≤ (k : Int) := by omega
     obtain ⟨cd, x, rfl, hcb, hx, hcx⟩ := HCR.out.at_ hkl
     obtain rfl : x = (colAt L k : Int) := by
      rw [cols_at (by rw [HN.out]; exact hkl)] at hx
      exact (Option.some.inj hx).symm
     have HBI : Hid (Below wc.heap.size wc wi) := HBR.out.trans (HBB.out.mono HBR.out.size)
     have HBW : Hid (Below w.heap.size w wi) := HBC.out.trans (HBI.out.mono HBC.out.size)
     have hcq : ∀ p : BW wi, p.at_.cell? (cd.add k) = some (.int .i64 (colAt L k : Int)) := fun p => ((HBI.out.trans (p.bel.mono HBI.out.size)).cell (by rw [block_of_add]; exact hcb)).trans hcx
     have hcr0 : ∀ p : BW wi, p.at_.cell? (ad.add i) = some (.slice RA rn rc) := fun p => HCRW.out _ (HBI.out.trans (p.bel.mono HBI.out.size))
     obtain ⟨t, ht⟩ : ∃ t, cellB r k = t := ⟨_, rfl⟩
     have hts := HSZ.out.cellB k
     have HCE : Hid (∀ p : BW wi, Calls Tryz.prog 75 #[.slice RA rn rc, .int .i64 (k : Int)] p.at_ fun e w' => e = .returned (.string t) ∧ p.at_ = w') := fun p => by
      rw [← ht]
      exact cell_any RA rn rc r k p.at_ (SR.on HSR.out (HBW.out.trans (p.bel.mono HBW.out.size))) (by omega) (by omega)
     rw [ht] at hts
     have HPD := Lib.hid fun W => refPad_any t (colAt L k : Int) W (by omega)
     have hps := padB_size t (colAt L k : Int)
     have HT := Lib.hid ht
     clear hx hcx ht
     by_cases hk0 : 0 < k
     ·have hk0z : (0 : Int) < (k : Int) := by omega
      have hc1 : s.size + (⟨#[32]⟩ : ByteArray).size ≤ 9223372036854775807 := by
       have : (⟨#[32]⟩ : ByteArray).size = 1 := rfl
       omega
      have hc2 : (s ++ ⟨#[32]⟩).size = s.size + 1 := by rw [Lib.size_eq, app_data, List.length_append, ← Lib.size_eq]; rfl
      have HNL : Hid ((s ++ ⟨#[32]⟩ ++ padB t (colAt L k : Int)).data.toList = lineG (cols L) r (k + 1)) := by
       show _ = lineG (cols L) r k ++ (if 0 < k then [32] else []) ++ pad (cellB r k).data.toList ((cols L).getD k 0)
       rw [if_pos hk0, HT.out, cols_getD, app_data, app_data, HS.out]
       unfold padB
       rw [strL_data]
      obtain ⟨s2, hs2⟩ : ∃ s2, s ++ ⟨#[32]⟩ = s2 := ⟨_, rfl⟩
      have hc3 : s2.size + (padB t (colAt L k : Int)).size ≤ 9223372036854775807 := by rw [← hs2, hc2]; omega
      rw [hs2] at HNL
      have hcat2 : s ++ (⟨#[32]⟩ : ByteArray) = s2 := hs2
      clear hc2 hs2
      go_wp2_with fail
      refine wp_region_quiet_below (by kernel_rfl) (by kernel_rfl) ?_
      repeat (go_big_quiet_step ((first | (go_at_call 75; exact same_quiet (HCE.out _)) | (go_at_call 99; exact below_quiet (HPD.out _)))))
      refine wpQuiet_nil ?_
      intro w1 hw'
      have hb1 := bw_below hw'
      have HBB1 : Hid (Below w0.heap.size w0 w1) := HBB.out.trans (hb1.mono HBB.out.size)
      clear hw' hb1 hcq hcr0
      go_wp2
      go_roundw
      case rel => exact ⟨k + 1, _, by omega, by go_num, rfl, HNL, HBB1⟩
      case measure => simp [intOf]; omega
     ·have hk0z : ¬ (0 : Int) < (k : Int) := by omega
      have hk00 : ¬ (0 : Int) < (k : Int) := hk0z
      have HNL : Hid ((s ++ padB t (colAt L k : Int)).data.toList = lineG (cols L) r (k + 1)) := by
       show _ = lineG (cols L) r k ++ (if 0 < k then [32] else []) ++ pad (cellB r k).data.toList ((cols L).getD k 0)
       rw [if_neg hk0, HT.out, cols_getD, app_data, HS.out, List.append_nil]
       unfold padB
       rw [strL_data]
      have hc3 : s.size + (padB t (colAt L k : Int)).size ≤ 9223372036854775807 := by omega
      go_wp2_with fail
      refine wp_region_quiet_below (by kernel_rfl) (by kernel_rfl) ?_
      repeat (go_big_quiet_step ((first | (go_at_call 75; exact same_quiet (HCE.out _)) | (go_at_call 99; exact below_quiet (HPD.out _)))))
      refine wpQuiet_nil ?_
      intro w1 hw'
      have hb1 := bw_below hw'
      have HBB1 : Hid (Below w0.heap.size w0 w1) := HBB.out.trans (hb1.mono HBB.out.size)
      clear hw' hb1 hcq hcr0
      go_wp2
      go_roundw
      case rel => exact ⟨k + 1, _, by omega, by go_num, rfl, HNL, HBB1⟩
      case measure => simp [intOf]; omega
    ·obtain rfl : N = k := by omega
     have hkz : ¬ (N : Int) < (N : Int) := by omega
     have HLL : Hid (strL (trimR s.data.toList) = lineL (cols L) r) := by
      show _ = _
      unfold lineL
      rw [HS.out, cols_len, HN.out]
     have HTR := Lib.hid fun W => refTrim_any s W (by omega)
     rw [HLL.out] at HTR
     clear HLL
     go_wp2_with fail
     refine (HTR.out _).mono ?_
     rintro e w3 ⟨rfl, rfl⟩
     have HO2 := Lib.hid (HO0.out.on HBB.out)
     have hsz2 : wc.heap.size ≤ wi.heap.size := Nat.le_trans HBR0.out.size HBB.out.size
     go_wp2_with (at_builtin; refine wpList_app1 rfl (.tmp 39) (.tmp 42) 45 rfl wc.heap.size 9 16 (.string .empty) info_string rfl Tryz.underlying45 rfl HO2.out rfl rfl (by omega) (by omega) hsz2 ?_; rintro v7 w4 hown7 hb7 hs7 hk7; clear hk7)
     have hO3 := own_s (n := 0) hown7
     rw [← HNX.out] at hO3
     have HO3 := Lib.hid hO3
     have HB3 : Hid (Below wc.heap.size wc w4) := (HBR0.out.trans (HBB.out.mono HBR0.out.size)).trans hb7
     clear hO3 hown7 hb7 hs7
     have hi1 : i + 1 ≤ n := HI.out
     go_wp2
     go_roundw
     case rel => exact ⟨i + 1, hi1, by go_num, HO3, HB3⟩
     case measure => have := HI.out; simp [intOf]; omega
  ·obtain rfl : n = i := by omega
   have hiz : ¬ (n : Int) < (n : Int) := by omega
   have h0 := HO.out
   rw [List.take_of_length_le (by rw [HLN.out]; exact Nat.le_refl _)] at h0
   have HO5 := Lib.hid h0
   clear h0
   go_wp2
   go_ret
   exact ⟨_, rfl, own_base HO5.out HBC.out.size, HBC.out.trans (HBR.out.mono HBC.out.size)⟩
end Go.Proofs.YthcabnfcgjnlnaaGreatDoor
namespace Go.Proofs.YthcabnfcgjnlnaaGreatDoor
open Go.RowKit Ru Lay Srt Col
theorem kidF_none {T : List Ti} {l : List Nt} (h : DocOk T l) {id : Int} (hg : getN l id = none) (tier : Int) (hk : (tierT T tier).kind ≠ 0) : kidF T l id tier = [] := by
 unfold kidF ofI
 split
 ·rfl
 ·rename_i ht
  unfold ofL
  rw [List.filter_map, List.map_eq_nil_iff, List.filter_eq_nil_iff]
  intro x hx
  obtain ⟨hm, hxt⟩ := ofK_all.1 hx
  show ¬ decide (((getN l x.nid).getD nt0).parent = id) = true
  rw [h.light.get hm]
  intro e
  have e2 : x.parent = id := of_decide_eq_true e
  rcases h.light.par x hm with ⟨k0, _⟩ | ⟨_, p, hp, _⟩
  ·rw [hxt] at k0; exact hk k0
  ·rw [e2, hg] at hp; cases hp
end Go.Proofs.YthcabnfcgjnlnaaGreatDoor
namespace Go.Proofs.YthcabnfcgjnlnaaGreatDoor.Lay
open Go.Proofs.YthcabnfcgjnlnaaGreatDoor Go.Proofs.YthcabnfcgjnlnaaGreatDoor.Ru
theorem cellB_part {r : List ByteArray} {f e k : Nat} (h : f + k < e) : cellB ((r.take (min e r.length)).drop (min f r.length)) k = cellB r (f + k) := by
 unfold cellB
 rw [List.getD, List.getD, List.getElem?_drop]
 by_cases hf : f ≤ r.length
 ·rw [Nat.min_eq_left hf, List.getElem?_take]
  by_cases hl : f + k < min e r.length
  ·rw [if_pos hl]
  ·rw [if_neg hl, List.getElem?_eq_none (l := r) (by omega)]
 ·rw [List.getElem?_eq_none (by rw [List.length_take]; omega), List.getElem?_eq_none (by omega)]
theorem colAt_map {L : List (List ByteArray)} {g h : List ByteArray → List ByteArray} {k : Nat} (hk : ∀ r ∈ L, cellB (g r) k = cellB (h r) k) : colAt (L.map g) k = colAt (L.map h) k := by
 induction L with
 | nil => rfl
 | cons r t ih =>
  show max _ (colAt (t.map g) k) = max _ (colAt (t.map h) k)
  rw [hk r (by simp), ih fun x hx => hk x (by simp [hx])]
theorem nmax_map {L : List (List ByteArray)} {g : List ByteArray → List ByteArray} {n : Nat} (h : ∀ r ∈ L, (g r).length ≤ n) (h2 : ∃ r ∈ L, (g r).length = n) : nmax (L.map g) = n := by
 refine Nat.le_antisymm (nmax_le fun r hr => ?_) ?_
 ·obtain ⟨x, hx, rfl⟩ := List.mem_map.1 hr
  exact h x hx
 ·obtain ⟨r, hr, e⟩ := h2
  rw [← e]
  exact le_nmax (List.mem_map.2 ⟨r, hr, rfl⟩)
theorem nmax_some {L : List (List ByteArray)} (h : 0 < nmax L) : ∃ r ∈ L, r.length = nmax L := by
 induction L with
 | nil => exact absurd h (by decide)
 | cons r t ih =>
  by_cases h1 : nmax t ≤ r.length
  ·refine ⟨r, by simp, ?_⟩
   show _ = max r.length (nmax t)
   omega
  ·obtain ⟨x, hx, e⟩ := ih (by omega)
   refine ⟨x, by simp [hx], ?_⟩
   show _ = max r.length (nmax t)
   omega
theorem lineG_congr {c : List Int} {r s : List ByteArray} : ∀ n, (∀ k, k < n → cellB r k = cellB s k) → lineG c r n = lineG c s n
 | 0, _ => rfl
 | n + 1, h => by
  show lineG c r n ++ _ ++ pad (cellB r n).data.toList _ = lineG c s n ++ _ ++ pad (cellB s n).data.toList _
  rw [lineG_congr n fun k hk => h k (by omega), h n (by omega)]
theorem part_same {L : List (List ByteArray)} {g : Nat × Nat} (h1 : g.1 < g.2) (h2 : g.2 ≤ nmax L) : alignL (partP L g) = alignL (partR L g) := by
 have hr : ∃ r ∈ L, r.length = nmax L := nmax_some (by omega)
 have n1 : nmax (partP L g) = g.2 - g.1 := by
  refine nmax_map (fun r hr => ?_) ?_
  ·rw [List.length_drop, List.length_take]
   omega
  ·obtain ⟨r, hr, e⟩ := hr
   refine ⟨r, hr, ?_⟩
   rw [List.length_drop, List.length_take]
   omega
 have n2 : nmax (partR L g) = g.2 - g.1 := by
  refine nmax_map (fun r hr => by simp) ?_
  obtain ⟨r, hr, _⟩ := hr
  exact ⟨r, hr, by simp⟩
 have hcell : ∀ (r : List ByteArray) k, k < g.2 - g.1 → cellB ((r.take (min g.2 r.length)).drop (min g.1 r.length)) k = cellB ((List.range (g.2 - g.1)).map fun j => cellB r (g.1 + j)) k := fun r k hk => by
  rw [cellB_part (by omega)]
  refine (cellB_some ?_).symm
  rw [List.getElem?_map, List.getElem?_range hk]
  rfl
 have hcols : cols (partP L g) = cols (partR L g) := by
  unfold cols
  rw [n1, n2]
  refine List.map_congr_left fun k hk => ?_
  rw [List.mem_range] at hk
  unfold partP partR
  rw [colAt_map fun r _ => hcell r k hk]
 unfold alignL
 rw [hcols]
 unfold partP partR
 rw [List.map_map, List.map_map]
 refine List.map_congr_left fun r _ => ?_
 show lineL _ _ = lineL _ _
 unfold lineL
 rw [lineG_congr]
 intro k hk
 refine hcell r k ?_
 have h3 := cols_len (partR L g)
 have h4 : (cols (L.map fun r => (List.range (g.2 - g.1)).map fun j => cellB r (g.1 + j))).length = nmax (partR L g) := h3
 rw [h4, n2] at hk
 exact hk
theorem wrapG_congr {f h : Nat × Nat → List ByteArray} {G : List (Nat × Nat)} : ∀ n, n ≤ G.length → (∀ g ∈ G, f g = h g) → wrapG f G n = wrapG h G n
 | 0, _, _ => rfl
 | n + 1, hn, hg => by
  show wrapG f G n ++ _ ++ f _ = wrapG h G n ++ _ ++ h _
  have : G[n]? = some (G[n]'(by omega)) := List.getElem?_eq_getElem (by omega)
  rw [wrapG_congr n (by omega) hg, getD_of_some this, hg _ (List.getElem_mem _)]
theorem wrapL_ref (L : List (List ByteArray)) (W : Int) : wrapL L W = wrapG (fun g => alignL (partR L g)) (groups (cols L) W) (groups (cols L) W).length := by
 unfold wrapL
 refine wrapG_congr _ (Nat.le_refl _) fun g hg => ?_
 obtain ⟨j, hj⟩ := List.getElem?_of_mem hg
 obtain ⟨h1, h2, _⟩ := (groups_ok (cols L) W).each j g.1 g.2 hj
 rw [cols_len] at h2
 exact part_same h1 h2
end Go.Proofs.YthcabnfcgjnlnaaGreatDoor.Lay
