/-
  RunesWhole, walked: it returns true, and nothing that was there has changed.
-/
import Derived.Test.YtplchlkdijjamaaDoorLawA
import Derived.Test.YtplchlkdijjamaaDoorPlainWhole
namespace Go.Proofs.YtplchlkdijjamaaDoor
open Go.RowKit Ru
set_option linter.unusedVariables false
set_option linter.unusedSimpArgs false

set_option maxHeartbeats 4000000 in
set_option maxRecDepth 100000 in
theorem whole_none (s : ByteArray) (w : World) (hT : Tabs w) (h : ¬ s.size ≤ 2000 ∨ points s.data.toList = none) :
    Calls Tryd.prog 8 #[.string s] w fun e w' => e = .returned (.bool true) ∧ Below w.heap.size w w' := by
  have HT := Lib.hid hT
  clear hT
  by_cases hs : s.size ≤ 2000
  · have hq : points s.data.toList = none := h.resolve_left (fun k => k hs)
    clear h
    have HF := Lib.hid fun W => few_yes hs (show (⟨#[]⟩ : ByteArray).size ≤ 2000 by decide) W
    have HP := Lib.hid (points_any s w (by omega) HT.out)
    have HC := Lib.hid fun W (hb : Below w.heap.size w W) => clusters_any s W (by omega) (HT.out.on hb)
    have HO := Lib.hid fun W (hb : Below w.heap.size w W) => mono_eq (order_any s W (by omega) (HT.out.on hb)) (v' := .string s) (by unfold ordPost; rw [order_none hq, ← strL_of (s := s) rfl])
    have hcl : clusB s.data.toList = [] := by unfold clusB; rw [hq]
    rw [hq] at HP
    rw [hcl] at HC
    clear hq hcl
    go_enter Tryd.func8, Tryd.ntmps8
    go_wp2_with fail
    refine (HF.out _).mono ?_
    rintro e w0 ⟨rfl, rfl⟩
    go_wp2_with fail
    refine HP.out.mono ?_
    intro e w1 hpp
    obtain ⟨A1, n1, c1, rfl, _, _, hb⟩ := hpp.val
    have HB1 : Hid (Below w.heap.size w w1) := hb
    clear hpp hb
    go_wp2_with fail
    refine (HC.out _ HB1.out).mono ?_
    rintro e w2 ⟨v, rfl, hown, hb⟩
    obtain ⟨A2, c2, rfl, _, _, _⟩ := own_form hown
    have HB2 : Hid (Below w.heap.size w w2) := HB1.out.trans (hb.mono HB1.out.size)
    clear hown hb
    go_wp2_with fail
    refine (HO.out _ HB2.out).mono ?_
    rintro e w3 ⟨rfl, hb⟩
    have HB3 : Hid (Below w.heap.size w w3) := HB2.out.trans (hb.mono HB2.out.size)
    clear hb
    go_wp2_with fail
    refine (awake_any _ (HT.out.on HB3.out)).mono ?_
    rintro e w4 ⟨rfl, hb⟩
    go_wp2
    go_ret
    exact ⟨rfl, HB3.out.trans (hb.mono HB3.out.size)⟩
  · have HF := Lib.hid fun W => few_no (s := s) (t := ⟨#[]⟩) (by omega) W
    clear h
    go_enter Tryd.func8, Tryd.ntmps8
    go_wp2_with fail
    refine (HF.out _).mono ?_
    rintro e w1 ⟨rfl, rfl⟩
    go_wp2_with fail
    refine (awake_any _ HT.out).mono ?_
    rintro e w4 ⟨rfl, hb4⟩
    go_wp2
    go_ret
    exact ⟨rfl, hb4⟩
theorem clus_split {d : List Nat} {i : Nat} {c : List Nat} (h : (clus d)[i]? = some c) : Ru.encS d = Ru.encS ((clus d).take i).flatten ++ (Ru.encS c ++ Ru.encS ((clus d).drop (i + 1)).flatten) := by
  conv => lhs; rw [← clus_flatten d, ← List.take_append_drop i (clus d), drop_at h]
  rw [List.flatten_append, List.flatten_cons, encS_app, encS_app]
theorem clus_take {d : List Nat} {i : Nat} {c : List Nat} (h : (clus d)[i]? = some c) : Ru.encS ((clus d).take (i + 1)).flatten = Ru.encS ((clus d).take i).flatten ++ Ru.encS c := by
  rw [take_at h, List.flatten_append, encS_app]
  simp
theorem cls_mark {m : Nat} (h : mk m = true) : ¬ classI (m : Int) = 0 := fun h0 => by
  have := (mk_cls m).1 h0
  rw [h] at this
  cases this

/-- What is there when the loop over the clusters stands at i. -/
theorem strL_nil : strL [] = ⟨#[]⟩ := rfl
set_option maxHeartbeats 4000000 in
set_option maxRecDepth 1000000 in
theorem whole_some (s : ByteArray) (d : List Nat) (w : World) (hT : Tabs w) (hs : s.size ≤ 2000) (hq : points s.data.toList = some d) :
    Calls Tryd.prog 8 #[.string s] w fun e w' => e = .returned (.bool true) ∧ Below w.heap.size w w' := by
  have HT := Lib.hid hT
  have HQ : Hid (points s.data.toList = some d) := hq
  have HF := Lib.hid fun W => few_yes hs (show (⟨#[]⟩ : ByteArray).size ≤ 2000 by decide) W
  have HP := Lib.hid (points_any s w (by omega) HT.out)
  have hol : (strL (order s.data.toList)).size = s.size := by rw [strL_size, order_len, ← Lib.size_eq]
  have HC := Lib.hid fun W (hb : Below w.heap.size w W) => clusters_any s W (by omega) (HT.out.on hb)
  have HO := Lib.hid fun W (hb : Below w.heap.size w W) => order_any s W (by omega) (HT.out.on hb)
  have HO2 := Lib.hid fun W (hb : Below w.heap.size w W) => mono_eq (order_any (strL (order s.data.toList)) W (by omega) (HT.out.on hb)) (v' := .string (strL (order s.data.toList))) (by unfold ordPost; rw [strL_data, order_idem])
  have HC2 := Lib.hid fun W (hb : Below w.heap.size w W) => clusters_any (strL (order s.data.toList)) W (by omega) (HT.out.on hb)
  unfold ordPost at HO
  obtain ⟨x, hx⟩ : ∃ x, strL (order s.data.toList) = x := ⟨_, rfl⟩
  have HX : Hid (strL (order s.data.toList) = x) := hx
  rw [hx] at HO HO2 HC2 hol
  have hcl : clusB s.data.toList = (clus d).map strC := by unfold clusB; rw [hq]
  rw [hq] at HP
  rw [hcl] at HC
  clear hq hcl hT hx
  go_enter Tryd.func8, Tryd.ntmps8
  go_wp2_with fail
  refine (HF.out _).mono ?_
  rintro e w0 ⟨rfl, rfl⟩
  go_wp2_with fail
  refine HP.out.mono ?_
  intro e w1 hpp
  obtain ⟨A1, n1, c1, rfl, _, _, hb⟩ := hpp.val
  have HB1 : Hid (Below w.heap.size w w1) := hb
  clear hpp hb
  go_wp2_with fail
  refine (HC.out _ HB1.out).mono ?_
  rintro e w2 ⟨v, rfl, hown, hb⟩
  obtain ⟨AL, cL, rfl, hcL1, hcL2, hr⟩ := own_form hown
  have RL2 : Hid (SR w2 w2.heap.size AL ((clus d).map strC).length ((clus d).map strC)) := hr
  obtain ⟨nl, hnl⟩ : ∃ q, ((clus d).map strC).length = q := ⟨_, rfl⟩
  rw [hnl] at RL2 hcL1 ⊢
  have HNL := Lib.hid hnl
  have HB2 : Hid (Below w.heap.size w w2) := HB1.out.trans (hb.mono HB1.out.size)
  clear hown hb hnl hr
  go_wp2_with fail
  refine (HO.out _ HB2.out).mono ?_
  rintro e w3 ⟨rfl, hb⟩
  have HB3 : Hid (Below w.heap.size w w3) := HB2.out.trans (hb.mono HB2.out.size)
  have RL3 := Lib.hid (SR.on RL2.out hb)
  clear hb
  go_wp2_with fail
  go_loopg [7, 8, 9, 10, 11] nl (fun g1 v7 v8 _ _ _ wr => ∃ (i : Nat) (a : ByteArray), v8 = .int .i64 i ∧ v7 = .string a ∧ i ≤ nl ∧ nl - i ≤ g1 ∧ Hid (a.data.toList = Ru.encS ((clus d).take i).flatten) ∧ Hid (SR wr wr.heap.size AL nl ((clus d).map strC)) ∧ Hid (Below w.heap.size w wr))
  case atStart => exact ⟨0, ⟨#[]⟩, rfl, rfl, Nat.zero_le _, by omega, rfl, RL3, HB3⟩
  case round =>
    clear RL3 HB3
    obtain ⟨i, a, rfl, rfl, hi, hg1, HA, RL, HB⟩ := hrel
    by_cases hlt : i < nl
    · have hiz : (i : Int) < (nl : Int) := by omega
      have hcl := HNL.out
      rw [List.length_map] at hcl
      obtain ⟨c, hc⟩ : ∃ c, (clus d)[i]? = some c := ⟨_, List.getElem?_eq_getElem (by omega)⟩
      have HC0 := Lib.hid hc
      obtain ⟨ad, u, rfl, _, hu, hcu⟩ := SR.at_ RL.out hlt
      obtain rfl : u = strC c := by
        rw [List.getElem?_map, hc] at hu
        simpa using hu.symm
      obtain ⟨p, ms, rfl, hms⟩ := clus_any_at hc
      have HSC : Hid (Sc (p :: ms)) := clus_sc (points_sc HQ.out) hc
      have hpc : points (strC (p :: ms)).data.toList = some (p :: ms) := by unfold strC; rw [strL_data, points_encS HSC.out]
      have hsz : (strC (p :: ms)).size ≤ 1099511627776 := by
        have h1 := congrArg List.length (clus_split HC0.out)
        rw [encS_points HQ.out, List.length_append, List.length_append, ← Lib.size_eq] at h1
        have h3 : (strC (p :: ms)).size = (Ru.encS (p :: ms)).length := by unfold strC; rw [strL_size]
        omega
      have HPC := Lib.hid (points_any (strC (p :: ms)) wr hsz (HT.out.on HB.out))
      rw [hpc] at HPC
      clear hc hu hpc
      go_wp2_with fail
      refine HPC.out.mono ?_
      intro e w4 hpp
      obtain ⟨A2, n2, c2, rfl, hr2, hn2, hb⟩ := hpp.val
      have R2 := Lib.hid hr2
      have HB4 : Hid (Below w.heap.size w w4) := HB.out.trans (hb.mono HB.out.size)
      have RL4 := Lib.hid (SR.on RL.out hb)
      clear hpp hr2 hb HPC
      have hnp : n2 = ms.length + 1 := by have := R2.out.len; simp [intsO] at this; omega
      have HNP := Lib.hid hnp
      have hnp0 : 0 < n2 := by omega
      obtain ⟨ad2, x, rfl, _, hx, hcx⟩ := IR.at_ R2.out hnp0
      obtain rfl : x = (p : Int) := by simp [intsO] at hx; omega
      have hcx2 : w4.cell? ad2 = some (.int .i64 (p : Int)) := by rw [show ad2.add 0 = ad2 by simp [Addr.add]] at hcx; exact hcx
      have he0 : ((n2 : Int) == 0) = false := beq_eq_false_iff_ne.2 (by omega)
      have hnz : ¬ n2 = 0 := by omega
      clear hnp hx hcx
      obtain ⟨ad', u', e', _, hu', hc4⟩ := SR.at_ RL4.out hlt
      cases e'
      obtain rfl : u' = strC (p :: ms) := by
        rw [List.getElem?_map, HC0.out] at hu'
        simpa using hu'.symm
      have HSP := Lib.hid (clus_split HC0.out)
      have hsz2 : a.size + (strC (p :: ms)).size ≤ s.size := by
        have h1 := congrArg List.length HSP.out
        have h2 := congrArg List.length HA.out
        rw [encS_points HQ.out, List.length_append, List.length_append, ← h2, ← Lib.size_eq, ← Lib.size_eq] at h1
        have h3 : (strC (p :: ms)).size = (Ru.encS (p :: ms)).length := by unfold strC; rw [strL_size]
        omega
      have hcat : a.size + (strC (p :: ms)).size ≤ 9223372036854775807 := by omega
      have hA2 : Hid ((a ++ strC (p :: ms)).data.toList = Ru.encS ((clus d).take (i + 1)).flatten) := by
        show _ = _
        rw [app_data, HA.out, clus_take HC0.out]
        unfold strC
        rw [strL_data]
      clear hu' hcu
      by_cases hi0 : i = 0
      · have HI0 : Hid (i = 0) := hi0
        have hgi : ¬ 0 < i := by omega
        clear hi0
        go_wp2_with fail
        go_loop [11] (fun v11 => ∃ k : Nat, 1 ≤ k ∧ k ≤ n2 ∧ v11 = .int .i64 k) (fun v11 => n2 - (intOf v11).toNat)
        case atStart => exact ⟨1, by omega, by omega, rfl⟩
        case round =>
          obtain ⟨k, hk1, hk2, rfl⟩ := hrel
          by_cases hkn : k < n2
          · have hkz : (k : Int) < (n2 : Int) := by omega
            obtain ⟨ad3, y, e3, _, hy, hcy⟩ := IR.at_ R2.out hkn
            cases e3
            have HM : Hid (∀ W, Calls Tryd.prog 19 #[.int .i64 y] W fun e w' => ∃ z : Int, e = .returned (.int .i64 z) ∧ ¬ z = 0 ∧ (z == 0) = false ∧ W = w') := by
              intro W
              obtain ⟨j, rfl⟩ : ∃ j, k = j + 1 := ⟨k - 1, by omega⟩
              have hy2 : (ms.map fun (q : Nat) => (q : Int))[j]? = some y := hy
              rw [List.getElem?_map] at hy2
              cases hm : ms[j]? with
              | none => rw [hm] at hy2; cases hy2
              | some m =>
                rw [hm] at hy2
                obtain rfl : y = (m : Int) := by simpa using hy2.symm
                have hne := cls_mark (hms m (List.mem_of_getElem? hm))
                refine (class_any (m : Int) W).mono ?_
                rintro e w' ⟨rfl, rfl⟩
                exact ⟨_, rfl, hne, beq_eq_false_iff_ne.2 hne, rfl⟩
            clear hy
            go_wp2_with fail
            refine (HM.out _).mono ?_
            rintro e w5 ⟨z, rfl, hz0, hz1, rfl⟩
            go_wp2
            go_round
            case rel => exact ⟨k + 1, by omega, by omega, by go_num⟩
            case measure => simp [intOf]; omega
          · have hkz : ¬ (k : Int) < (n2 : Int) := by omega
            go_wp2
            go_roundg (nl - (i + 1))
            case measure => omega
            case rel => exact ⟨i + 1, _, by go_num, rfl, by omega, by omega, hA2, RL4, HB4⟩
      · have hgi : 0 < i := by omega
        have HCL : Hid (∀ W, Calls Tryd.prog 19 #[.int .i64 (p : Int)] W fun e w' => e = .returned (.int .i64 0) ∧ W = w') := fun W => mono_eq (class_any p W) (by
          obtain ⟨p', ms', e1, e2, _⟩ := clus_later HC0.out hgi
          cases e1
          exact congrArg (Value.int .i64) ((mk_cls p).2 e2))
        clear hi0
        go_wp2_with fail
        refine (HCL.out _).mono ?_
        rintro e w5 ⟨rfl, rfl⟩
        go_wp2_with fail
        go_loop [11] (fun v11 => ∃ k : Nat, 1 ≤ k ∧ k ≤ n2 ∧ v11 = .int .i64 k) (fun v11 => n2 - (intOf v11).toNat)
        case atStart => exact ⟨1, by omega, by omega, rfl⟩
        case round =>
          obtain ⟨k, hk1, hk2, rfl⟩ := hrel
          by_cases hkn : k < n2
          · have hkz : (k : Int) < (n2 : Int) := by omega
            obtain ⟨ad3, y, e3, _, hy, hcy⟩ := IR.at_ R2.out hkn
            cases e3
            have HM : Hid (∀ W, Calls Tryd.prog 19 #[.int .i64 y] W fun e w' => ∃ z : Int, e = .returned (.int .i64 z) ∧ ¬ z = 0 ∧ (z == 0) = false ∧ W = w') := by
              intro W
              obtain ⟨j, rfl⟩ : ∃ j, k = j + 1 := ⟨k - 1, by omega⟩
              have hy2 : (ms.map fun (q : Nat) => (q : Int))[j]? = some y := hy
              rw [List.getElem?_map] at hy2
              cases hm : ms[j]? with
              | none => rw [hm] at hy2; cases hy2
              | some m =>
                rw [hm] at hy2
                obtain rfl : y = (m : Int) := by simpa using hy2.symm
                have hne := cls_mark (hms m (List.mem_of_getElem? hm))
                refine (class_any (m : Int) W).mono ?_
                rintro e w' ⟨rfl, rfl⟩
                exact ⟨_, rfl, hne, beq_eq_false_iff_ne.2 hne, rfl⟩
            clear hy
            go_wp2_with fail
            refine (HM.out _).mono ?_
            rintro e w5 ⟨z, rfl, hz0, hz1, rfl⟩
            go_wp2
            go_round
            case rel => exact ⟨k + 1, by omega, by omega, by go_num⟩
            case measure => simp [intOf]; omega
          · have hkz : ¬ (k : Int) < (n2 : Int) := by omega
            go_wp2
            go_roundg (nl - (i + 1))
            case measure => omega
            case rel => exact ⟨i + 1, _, by go_num, rfl, by omega, by omega, hA2, RL4, HB4⟩
    · obtain rfl : i = nl := by omega
      have ha : a = s := by
        refine ba_ext ?_
        rw [HA.out, List.take_of_length_le (by have := HNL.out; rw [List.length_map] at this; omega), clus_flatten, encS_points HQ.out]
      subst ha
      have hlen : (clusB x.data.toList).length = i := by
        have h1 : x.data.toList = Ru.encS (ords d) := by rw [← HX.out, strL_data, order_some HQ.out]
        rw [h1, clusB, points_encS ((points_sc HQ.out).perm (ords_perm d))]
        show ((clus (ords d)).map strC).length = _
        rw [List.length_map, ords_clus_len, ← HNL.out, List.length_map]
      rw [hlen] at HC2
      have hz1 : ((x.size : Int) == (a.size : Int)) = true := beq_iff_eq.2 (by omega)
      have hil : ¬ (i : Int) < (i : Int) := by omega
      clear hlen HC HP HO HX HNL
      go_wp2_with fail
      refine (HO2.out _ HB.out).mono ?_
      rintro e w4 ⟨rfl, hb⟩
      have HB4 : Hid (Below w.heap.size w w4) := HB.out.trans (hb.mono HB.out.size)
      clear hb
      go_wp2_with fail
      refine (HC2.out _ HB4.out).mono ?_
      rintro e w5 ⟨v, rfl, hown, hb⟩
      obtain ⟨A5, c5, rfl, _, _, _⟩ := own_form hown
      have HB5 : Hid (Below w.heap.size w w5) := HB4.out.trans (hb.mono HB4.out.size)
      clear hb hown
      go_wp2_with fail
      refine (awake_any _ (HT.out.on HB5.out)).mono ?_
      rintro e w6 ⟨rfl, hb⟩
      go_wp2
      go_ret
      exact ⟨rfl, HB5.out.trans (hb.mono HB5.out.size)⟩
theorem whole_law (s : ByteArray) (w : World) (hT : Tabs w) :
    Calls Tryd.prog 8 #[.string s] w fun e w' => e = .returned (.bool true) ∧ Below w.heap.size w w' := by
  by_cases hs : s.size ≤ 2000
  · cases hp : points s.data.toList with
    | none => exact whole_none s w hT (.inr hp)
    | some d => exact whole_some s d w hT hs hp
  · exact whole_none s w hT (.inl hs)
end Go.Proofs.YtplchlkdijjamaaDoor
