/-
  RunesAdds, walked: it returns true, and nothing that was there has changed.
-/
import Derived.Test.YtplchlkdijjamaaDoorLawA
import Derived.Test.YtplchlkdijjamaaDoorAppStep
namespace Go.Proofs.YtplchlkdijjamaaDoor
open Go.RowKit Ru
attribute [local go_sem ↓] Go.wp_at_zero Go.wp_at_succ
set_option linter.unusedVariables false
set_option linter.unusedSimpArgs false

theorem points_two {s t : List UInt8} {ds dt : List Nat} (hs : points s = some ds) (ht : points t = some dt) : points (s ++ t) = some (ds ++ dt) := by
  rw [← encS_points hs, points_app (points_sc hs), ht]
  rfl
theorem clusB_some {s : List UInt8} {d : List Nat} (h : points s = some d) : clusB s = (clus d).map strC := by
  unfold clusB
  rw [h]
theorem clusB_two {s t : List UInt8} {ds dt : List Nat} (hs : points s = some ds) (ht : points t = some dt) (hf : Fresh dt) : clusB (s ++ t) = clusB s ++ clusB t := by
  rw [clusB_some (points_two hs ht), clusB_some hs, clusB_some ht, clus_app ds dt hf, List.map_append]
theorem order_two {s t : List UInt8} {ds dt : List Nat} (hs : points s = some ds) (ht : points t = some dt) (hf : Fresh dt) : order (s ++ t) = order s ++ order t := by
  rw [order_some (points_two hs ht), order_some hs, order_some ht, ords_app ds dt hf, encS_app]
theorem clusB_len (s : List UInt8) : (clusB s).length ≤ s.length := by
  cases h : points s with
  | none =>
    unfold clusB
    rw [h]
    exact Nat.zero_le _
  | some d =>
    rw [clusB_some h, List.length_map]
    refine Nat.le_trans ?_ (points_length _ _ _ (Nat.le_refl _) h)
    exact seg_ind (P := fun l => (clus l).length ≤ l.length) (Nat.le_refl _) (fun p ms rest hm hr ih => by
      rw [clus_seg p ms rest hm hr, List.length_cons, List.length_append, List.length_cons]
      omega) d
theorem strL_two (a b : List UInt8) : strL a ++ strL b = strL (a ++ b) := ba_ext (by rw [app_data, strL_data, strL_data, strL_data])

/-- RunesAdds. -/
theorem fresh_cons {p : Nat} {l : List Nat} (h : mk p = false) : Fresh (p :: l) := fun q t e => by
  cases e
  exact h
set_option maxHeartbeats 4000000 in
set_option maxRecDepth 100000 in
theorem adds_law (s t : ByteArray) (w : World) (hT : Tabs w) :
    Calls Tryd.prog 10 #[.string s, .string t] w fun e w' => e = .returned (.bool true) ∧ Below w.heap.size w w' := by
  have HT := Lib.hid hT
  clear hT
  by_cases hs : s.size ≤ 1000
  · have hs1 : decide ((1000 : Int) < (s.size : Int)) = false := decide_eq_false (by omega)
    by_cases ht : t.size ≤ 1000
    · have ht1 : decide ((1000 : Int) < (t.size : Int)) = false := decide_eq_false (by omega)
      have HPT := Lib.hid (points_any t w (by omega) HT.out)
      have HPS := Lib.hid fun W (hb : Below w.heap.size w W) => points_any s W (by omega) (HT.out.on hb)
      obtain ⟨ot, hot⟩ : ∃ o, points t.data.toList = o := ⟨_, rfl⟩
      obtain ⟨os, hos⟩ : ∃ o, points s.data.toList = o := ⟨_, rfl⟩
      have HQT : Hid (points t.data.toList = ot) := hot
      have HQS : Hid (points s.data.toList = os) := hos
      rw [hot] at HPT
      rw [hos] at HPS
      clear hot hos
      cases ot with
      | none =>
        have hbs : ∃ b, os.isSome = b := ⟨_, rfl⟩
        obtain ⟨b, hb0⟩ := hbs
        have HBS : Hid (os.isSome = b) := hb0
        clear hb0
        go_enter Tryd.func10, Tryd.ntmps10
        go_wp2_with fail
        refine (HPT.out).mono ?_
        intro e w1 hpp
        obtain ⟨A1, n1, c1, rfl, hr1, hn1, hb⟩ := hpp.val
        have R1 := Lib.hid hr1
        clear hpp hr1
        have HB1 : Hid (Below w.heap.size w w1) := hb
        clear hb
        go_wp2_with fail
        refine (HPS.out _ HB1.out).mono ?_
        intro e w2 hpp
        obtain ⟨A2, n2, c2, rfl, _, _, hb⟩ := hpp.val
        rw [HBS.out]
        have R2 := Lib.hid (IR.on R1.out hb)
        clear hpp
        have HB2 : Hid (Below w.heap.size w w2) := HB1.out.trans (hb.mono HB1.out.size)
        clear hb
        go_wp2_with fail
        refine (awake_any _ (HT.out.on HB2.out)).mono ?_
        rintro e w3 ⟨rfl, hb⟩
        have HB3 : Hid (Below w.heap.size w w3) := HB2.out.trans (hb.mono HB2.out.size)
        clear hb
        go_wp2
        go_ret
        exact ⟨rfl, HB3.out⟩
      | some dt =>
        cases os with
        | none =>
          go_enter Tryd.func10, Tryd.ntmps10
          go_wp2_with fail
          refine (HPT.out).mono ?_
          intro e w1 hpp
          obtain ⟨A1, n1, c1, rfl, hr1, hn1, hb⟩ := hpp.val
          have R1 := Lib.hid hr1
          clear hpp hr1
          have HB1 : Hid (Below w.heap.size w w1) := hb
          clear hb
          go_wp2_with fail
          refine (HPS.out _ HB1.out).mono ?_
          intro e w2 hpp
          obtain ⟨A2, n2, c2, rfl, _, _, hb⟩ := hpp.val
          have R2 := Lib.hid (IR.on R1.out hb)
          clear hpp
          have HB2 : Hid (Below w.heap.size w w2) := HB1.out.trans (hb.mono HB1.out.size)
          clear hb
          go_wp2_with fail
          refine (awake_any _ (HT.out.on HB2.out)).mono ?_
          rintro e w3 ⟨rfl, hb⟩
          have HB3 : Hid (Below w.heap.size w w3) := HB2.out.trans (hb.mono HB2.out.size)
          clear hb
          go_wp2
          go_ret
          exact ⟨rfl, HB3.out⟩
        | some ds =>
          cases dt with
          | nil =>
            go_enter Tryd.func10, Tryd.ntmps10
            go_wp2_with fail
            refine (HPT.out).mono ?_
            intro e w1 hpp
            obtain ⟨A1, n1, c1, rfl, hr1, hn1, hb⟩ := hpp.val
            obtain rfl : n1 = 0 := by have := hr1.len; simp [intsO] at this; omega
            have R1 := Lib.hid hr1
            clear hpp hr1
            have HB1 : Hid (Below w.heap.size w w1) := hb
            clear hb
            go_wp2_with fail
            refine (HPS.out _ HB1.out).mono ?_
            intro e w2 hpp
            obtain ⟨A2, n2, c2, rfl, _, _, hb⟩ := hpp.val
            have R2 := Lib.hid (IR.on R1.out hb)
            clear hpp
            have HB2 : Hid (Below w.heap.size w w2) := HB1.out.trans (hb.mono HB1.out.size)
            clear hb
            go_wp2_with fail
            refine (awake_any _ (HT.out.on HB2.out)).mono ?_
            rintro e w3 ⟨rfl, hb⟩
            have HB3 : Hid (Below w.heap.size w w3) := HB2.out.trans (hb.mono HB2.out.size)
            clear hb
            go_wp2
            go_ret
            exact ⟨rfl, HB3.out⟩
          | cons p dt =>
            obtain ⟨mp, hmp⟩ : ∃ b, Hid (mk p = b) := ⟨_, rfl⟩
            have HMK : Hid (∀ W, Calls Tryd.prog 28 #[.int .i64 (p : Int)] W fun e w' => e = .returned (.bool mp) ∧ W = w') := fun W => mono_eq (refMark_any p W) (by rw [← hmp.out]; rfl)
            cases mp with
            | true =>
              go_enter Tryd.func10, Tryd.ntmps10
              go_wp2_with fail
              refine (HPT.out).mono ?_
              intro e w1 hpp
              obtain ⟨A1, n1, c1, rfl, hr1, hn1, hb⟩ := hpp.val
              have R1 := Lib.hid hr1
              clear hpp hr1
              have HB1 : Hid (Below w.heap.size w w1) := hb
              clear hb
              go_wp2_with fail
              refine (HPS.out _ HB1.out).mono ?_
              intro e w2 hpp
              obtain ⟨A2, n2, c2, rfl, _, _, hb⟩ := hpp.val
              have R2 := Lib.hid (IR.on R1.out hb)
              clear hpp
              have HB2 : Hid (Below w.heap.size w w2) := HB1.out.trans (hb.mono HB1.out.size)
              clear hb
              have hnp : 0 < n1 := by have := R1.out.len; simp [intsO] at this; omega
              obtain ⟨ad, x, rfl, _, hx, hcx⟩ := IR.at_ R2.out hnp
              obtain rfl : x = (p : Int) := by simp [intsO] at hx; omega
              have hcx2 : w2.cell? ad = some (.int .i64 (p : Int)) := by rw [show ad.add 0 = ad by simp [Addr.add]] at hcx; exact hcx
              have he0 : ((n1 : Int) == 0) = false := beq_eq_false_iff_ne.2 (by omega)
              have hnz : ¬ n1 = 0 := by omega
              go_wp2_with fail
              refine (HMK.out _).mono ?_
              rintro e w3 ⟨rfl, rfl⟩
              go_wp2_with fail
              refine (awake_any _ (HT.out.on HB2.out)).mono ?_
              rintro e w3 ⟨rfl, hb⟩
              have HB3 : Hid (Below w.heap.size w w3) := HB2.out.trans (hb.mono HB2.out.size)
              clear hb
              go_wp2
              go_ret
              exact ⟨rfl, HB3.out⟩
            | false =>
              have HF : Hid (Fresh (p :: dt)) := fresh_cons hmp.out
              have hsl : (clusB s.data.toList).length ≤ 1000 := by have := clusB_len s.data.toList; rw [← Lib.size_eq] at this; omega
              have htl : (clusB t.data.toList).length ≤ 1000 := by have := clusB_len t.data.toList; rw [← Lib.size_eq] at this; omega
              have hst : (s ++ t).size ≤ 2000 := by rw [Lib.size_eq, app_data, List.length_append, ← Lib.size_eq, ← Lib.size_eq]; omega
              have hcat : s.size + t.size ≤ 9223372036854775807 := by omega
              have ox : (strL (order s.data.toList)).size = s.size := by rw [strL_size, order_len, ← Lib.size_eq]
              have oy : (strL (order t.data.toList)).size = t.size := by rw [strL_size, order_len, ← Lib.size_eq]
              have HCS := Lib.hid fun W (hb : Below w.heap.size w W) => clusters_any s W (by omega) (HT.out.on hb)
              have HCT := Lib.hid fun W (hb : Below w.heap.size w W) => clusters_any t W (by omega) (HT.out.on hb)
              have HCW := Lib.hid fun W (hb : Below w.heap.size w W) => clusters_any (s ++ t) W (by omega) (HT.out.on hb)
              rw [app_data, clusB_two HQS.out HQT.out HF.out] at HCW
              have HO1 := Lib.hid fun W (hb : Below w.heap.size w W) => mono_eq (order_any (s ++ t) W (by omega) (HT.out.on hb)) (v' := .string (strL (order s.data.toList) ++ strL (order t.data.toList))) (by unfold ordPost; rw [app_data, order_two HQS.out HQT.out HF.out, strL_two])
              have HO2 := Lib.hid fun W (hb : Below w.heap.size w W) => order_any s W (by omega) (HT.out.on hb)
              have HO3 := Lib.hid fun W (hb : Below w.heap.size w W) => order_any t W (by omega) (HT.out.on hb)
              unfold ordPost at HO2 HO3
              obtain ⟨x, hx⟩ : ∃ x, strL (order s.data.toList) = x := ⟨_, rfl⟩
              obtain ⟨y, hy⟩ : ∃ y, strL (order t.data.toList) = y := ⟨_, rfl⟩
              rw [hx] at HO1 HO2 ox
              rw [hy] at HO1 HO3 oy
              have hcat2 : x.size + y.size ≤ 9223372036854775807 := by omega
              obtain ⟨cs, hcs⟩ : ∃ l, clusB s.data.toList = l := ⟨_, rfl⟩
              obtain ⟨ct, hct⟩ : ∃ l, clusB t.data.toList = l := ⟨_, rfl⟩
              rw [hcs] at HCS HCW hsl
              rw [hct] at HCT HCW htl
              clear hx hy hcs hct
              go_enter Tryd.func10, Tryd.ntmps10
              go_wp2_with fail
              refine (HPT.out).mono ?_
              intro e w1 hpp
              obtain ⟨A1, n1, c1, rfl, hr1, hn1, hb⟩ := hpp.val
              have R1 := Lib.hid hr1
              clear hpp hr1
              have HB1 : Hid (Below w.heap.size w w1) := hb
              clear hb
              go_wp2_with fail
              refine (HPS.out _ HB1.out).mono ?_
              intro e w2 hpp
              obtain ⟨A2, n2, c2, rfl, _, _, hb⟩ := hpp.val
              have R2 := Lib.hid (IR.on R1.out hb)
              clear hpp
              have HB2 : Hid (Below w.heap.size w w2) := HB1.out.trans (hb.mono HB1.out.size)
              clear hb
              have hnp : 0 < n1 := by have := R1.out.len; simp [intsO] at this; omega
              obtain ⟨ad, x, rfl, _, hx, hcx⟩ := IR.at_ R2.out hnp
              obtain rfl : x = (p : Int) := by simp [intsO] at hx; omega
              have hcx2 : w2.cell? ad = some (.int .i64 (p : Int)) := by rw [show ad.add 0 = ad by simp [Addr.add]] at hcx; exact hcx
              have he0 : ((n1 : Int) == 0) = false := beq_eq_false_iff_ne.2 (by omega)
              have hnz : ¬ n1 = 0 := by omega
              go_wp2_with fail
              refine (HMK.out _).mono ?_
              rintro e w3 ⟨rfl, rfl⟩
              go_wp2_with fail
              refine (HCS.out _ HB2.out).mono ?_
              rintro e w3 ⟨vS, rfl, hown, hb⟩
              obtain ⟨AS, cS, rfl, hc1S, hc2S, hr⟩ := own_form hown
              have RS := Lib.hid hr
              clear hr hown
              have HB3 : Hid (Below w.heap.size w w3) := HB2.out.trans (hb.mono HB2.out.size)
              clear hb
              go_wp2_with (at_builtin; refine wpList_app rfl (.tmp 47) (.tmp 49) 35 rfl w.heap.size 9 16 (.string .empty) info_string rfl Tryd.underlying35 rfl (World.ownsRow_nil _ _ _ _) rfl RS.out (by simp [Value.oneCell']) (by omega) (by omega) HB3.out.size ?_; intro vL w4 hown hg hat)
              have HB4 : Hid (Below w.heap.size w w4) := HB3.out.grown hg HB3.out.size (fun k hk => by cases hk)
              have HL4 := Lib.hid hown
              clear hg hat hown
              go_wp2_with fail
              refine (HCT.out _ HB4.out).mono ?_
              rintro e w5 ⟨vT, rfl, hown, hb⟩
              obtain ⟨AT, cT, rfl, hc1T, hc2T, hr⟩ := own_form hown
              have RT := Lib.hid hr
              clear hr hown
              have HL5 := Lib.hid (own_below HL4.out hb)
              have HB5 : Hid (Below w.heap.size w w5) := HB4.out.trans (hb.mono HB4.out.size)
              clear hb
              go_wp2_with (at_builtin; refine wpList_app rfl (.tmp 51) (.tmp 53) 35 rfl w.heap.size 9 16 (.string .empty) info_string rfl Tryd.underlying35 rfl HL5.out rfl RT.out (by simp [Value.oneCell']) (by omega) (by omega) HB5.out.size ?_; intro vM w6 hown hg hat)
              have HB6 : Hid (Below w.heap.size w w6) := HB5.out.grown hg HB5.out.size (fun k hk => (HL5.out.lt k hk).1)
              obtain ⟨AM, cM, rfl, hc1M, hc2M, hr⟩ := own_form hown
              have RM : Hid (SR w6 w6.heap.size AM (0 + cs.length + ct.length) (cs ++ ct)) := by show Reads _ _ _ _ _ _; rw [List.map_append]; exact hr
              clear hg hat hown hr
              go_wp2_with fail
              refine (HCW.out _ HB6.out).mono ?_
              rintro e w7 ⟨vW, rfl, hown, hb⟩
              obtain ⟨AW, cW, rfl, hc1W, hc2W, hr⟩ := own_form hown
              have RW := Lib.hid hr
              clear hr hown
              have RM7 := Lib.hid (SR.on RM.out hb)
              have HB7 : Hid (Below w.heap.size w w7) := HB6.out.trans (hb.mono HB6.out.size)
              clear hb
              have HS : Hid (∀ k m, k = cs.length + ct.length → m = cs.length + ct.length → Calls Tryd.prog 21 #[.slice AW k cW, .slice AM m cM] w7 fun e w' => e = .returned (.bool true) ∧ ∃ j, w' = w7.drewN j) := by
                intro k m hk hm
                have a : SR w7 w7.heap.size AW k (cs ++ ct) := by rw [hk, ← List.length_append]; exact RW.out
                have b : SR w7 w7.heap.size AM m (cs ++ ct) := by rw [hm, show cs.length + ct.length = 0 + cs.length + ct.length by omega]; exact RM7.out
                have h := equal_strs AW AM k m cW cM _ _ w7 a b (by omega) (by omega)
                rw [decide_eq_true rfl] at h
                exact h
              go_wp2_with fail
              refine (HS.out _ _ (by first | rfl | simp | omega) (by first | rfl | simp | omega)).mono ?_
              rintro e w8 ⟨rfl, hk⟩
              have hb : Below w7.heap.size w7 w8 := by obtain ⟨k, rfl⟩ := hk; exact below_drewN (Below.refl _ _) _
              clear hk
              have HB8 : Hid (Below w.heap.size w w8) := HB7.out.trans (hb.mono HB7.out.size)
              clear hb
              go_wp2_with fail
              refine (HO1.out _ HB8.out).mono ?_
              rintro e w9 ⟨rfl, hb⟩
              have HB9 : Hid (Below w.heap.size w w9) := HB8.out.trans (hb.mono HB8.out.size)
              clear hb
              go_wp2_with fail
              refine (HO2.out _ HB9.out).mono ?_
              rintro e w10 ⟨rfl, hb⟩
              have HB10 : Hid (Below w.heap.size w w10) := HB9.out.trans (hb.mono HB9.out.size)
              clear hb
              go_wp2_with fail
              refine (HO3.out _ HB10.out).mono ?_
              rintro e w11 ⟨rfl, hb⟩
              have HB11 : Hid (Below w.heap.size w w11) := HB10.out.trans (hb.mono HB10.out.size)
              clear hb
              go_wp2_with fail
              refine (awake_any _ (HT.out.on HB11.out)).mono ?_
              rintro e w12 ⟨rfl, hb⟩
              have HB12 : Hid (Below w.heap.size w w12) := HB11.out.trans (hb.mono HB11.out.size)
              clear hb
              go_wp2
              go_ret
              exact ⟨rfl, HB12.out⟩
    · have ht1 : decide ((1000 : Int) < (t.size : Int)) = true := decide_eq_true (by omega)
      go_enter Tryd.func10, Tryd.ntmps10
      go_wp2_with fail
      refine (awake_any _ HT.out).mono ?_
      rintro e w1 ⟨rfl, hb⟩
      have HB1 : Hid (Below w.heap.size w w1) := hb
      go_wp2
      go_ret
      exact ⟨rfl, HB1.out⟩
  · have hs1 : decide ((1000 : Int) < (s.size : Int)) = true := decide_eq_true (by omega)
    go_enter Tryd.func10, Tryd.ntmps10
    go_wp2_with fail
    refine (awake_any _ HT.out).mono ?_
    rintro e w1 ⟨rfl, hb⟩
    have HB1 : Hid (Below w.heap.size w w1) := hb
    go_wp2
    go_ret
    exact ⟨rfl, HB1.out⟩
end Go.Proofs.YtplchlkdijjamaaDoor
