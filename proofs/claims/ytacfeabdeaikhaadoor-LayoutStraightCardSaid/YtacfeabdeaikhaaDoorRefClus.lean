import Derived.Test.YtacfeabdeaikhaaDoorRefOrder
import Derived.Deep.RegionWith
import Derived.Deep.DrawnRows
namespace Go.Proofs.YtacfeabdeaikhaaDoor
open Go.RowKit Ru
attribute [local go_sem ↓] Go.wp_at_zero Go.wp_at_succ
set_option linter.unusedVariables false
set_option linter.unusedSimpArgs false

def strC (c : List Nat) : ByteArray := strL (encS c)
/-- The clusters of a string; none if it is not valid. -/
def clusB (s : List UInt8) : List ByteArray :=
  match points s with
  | none => []
  | some d => (clus d).map strC
/-- What has been collected when i points are over. -/
def CluRel (d : List Nat) (i : Nat) (cs : List (List Nat)) : Prop :=
  (i = 0 ∧ cs = []) ∨ (0 < i ∧ ∃ done c, cs = done ++ [c] ∧ c.length ≤ i ∧ clus d = done ++ cluGo c (d.drop i))
theorem CluRel.start {d : List Nat} {p : Nat} (hp : d[0]? = some p) : CluRel d 1 [[p]] := by
  refine .inr ⟨by omega, [], [p], rfl, by simp, ?_⟩
  cases d with
  | nil => simp at hp
  | cons x t => simp at hp; subst hp; rfl
theorem CluRel.mark {d : List Nat} {i p : Nat} {done : List (List Nat)} {c : List Nat} (h : clus d = done ++ cluGo c (d.drop i)) (hl : c.length ≤ i) (hp : d[i]? = some p) (hm : mk p = true) : CluRel d (i + 1) (done ++ [c ++ [p]]) := by
  refine .inr ⟨by omega, done, c ++ [p], rfl, by simp; omega, ?_⟩
  rw [h, drop_at hp]
  show done ++ (if mk p = true then cluGo (c ++ [p]) (d.drop (i + 1)) else _) = _
  rw [if_pos hm]
theorem CluRel.base {d : List Nat} {i p : Nat} {done : List (List Nat)} {c : List Nat} (h : clus d = done ++ cluGo c (d.drop i)) (hl : c.length ≤ i) (hp : d[i]? = some p) (hm : mk p = false) : CluRel d (i + 1) ((done ++ [c]) ++ [[p]]) := by
  refine .inr ⟨by omega, done ++ [c], [p], rfl, by simp, ?_⟩
  rw [h, drop_at hp]
  show done ++ (if mk p = true then _ else c :: cluGo [p] (d.drop (i + 1))) = _
  rw [hm, if_neg (by simp)]
  simp
theorem CluRel.fin {d : List Nat} {cs : List (List Nat)} (h : CluRel d d.length cs) : clus d = cs := by
  rcases h with ⟨h0, rfl⟩ | ⟨_, done, c, rfl, _, h⟩
  · have : d = [] := List.eq_nil_of_length_eq_zero h0
    subst this
    rfl
  · rw [h, List.drop_length]
    rfl
def strV (cs : List (List Nat)) : List Value := cs.map fun c => Value.string (strC c)
theorem own_stored {w : World} {base e g n cap k : Nat} {done : List (List Nat)} {c c' : List Nat} (h : w.ownsRow base e 1 (.slice (some ⟨g, 0, none⟩) n cap) n (strV (done ++ [c]))) (hk : done.length = k) :
    (w.setCell ⟨g, k, none⟩ (.string (strC c'))).ownsRow base e 1 (.slice (some ⟨g, 0, none⟩) n cap) n (strV (done ++ [c'])) ∧ Below base w (w.setCell ⟨g, k, none⟩ (.string (strC c'))) := by
  subst hk
  have h2 := h.stored done.length (.string (strC c'))
  have e1 : (strV (done ++ [c])).set done.length (.string (strC c')) = strV (done ++ [c']) := by
    unfold strV
    rw [List.map_append, List.map_append, List.set_append_right _ _ (by simp)]
    simp
  rw [e1] at h2
  exact ⟨h2.1, (Below.refl _ _).grown h2.2 (Nat.le_of_lt (Nat.lt_of_le_of_lt (h.lt g rfl).1 (h.lt g rfl).2)) fun k hk => by cases hk; exact (h.lt g rfl).1⟩

set_option maxHeartbeats 4000000 in
set_option maxRecDepth 100000 in
theorem refClusters_any (s : ByteArray) (w : World) (hs : s.size ≤ 1099511627) :
    Calls Tryd.prog 30 #[.string s] w fun e w' => ∃ v, e = .returned v ∧ w'.ownsRow w.heap.size 9 1 v (clusB s.data.toList).length ((clusB s.data.toList).map .string) ∧ Below w.heap.size w w' := by
  have HPT := Lib.hid (points02_any s w (by omega))
  obtain ⟨o, ho⟩ : ∃ o, Hid (points s.data.toList = o) := ⟨_, rfl⟩
  rw [ho.out] at HPT
  cases o with
  | none =>
    have HRES : Hid (clusB s.data.toList = []) := by
      show _ = _
      unfold clusB
      rw [ho.out]
    rw [HRES.out]
    go_enter Tryd.func30, Tryd.ntmps30
    go_wp2_with fail
    refine HPT.out.mono ?_
    rintro e w1 ⟨h1, _, hb1⟩
    rw [h1 rfl]
    clear h1
    go_wp2
    go_ret
    exact ⟨_, rfl, World.ownsRow_nil _ _ _ _, hb1⟩
  | some d =>
    have HSC : Hid (Sc d) := points_sc ho.out
    have hdl : d.length ≤ 1099511627 := by
      have := points_length _ _ _ (Nat.le_refl _) ho.out
      rw [← Lib.size_eq] at this
      omega
    have HRES : Hid (clusB s.data.toList = (clus d).map strC) := by
      show _ = _
      unfold clusB
      rw [ho.out]
    rw [HRES.out]
    go_enter Tryd.func30, Tryd.ntmps30
    go_wp2_with fail
    refine HPT.out.mono ?_
    rintro e w1 ⟨_, h2, hb1⟩
    obtain ⟨v, rfl, hown⟩ := h2 d rfl
    clear h2
    obtain ⟨AD, cd, rfl, hcd1, hcd2, rd⟩ := own_form hown
    have HD : Hid (NR w1 w1.heap.size AD d.length d) := rd
    have HB1 := Lib.hid hb1
    obtain ⟨nd, hnd⟩ : ∃ q, d.length = q := ⟨_, rfl⟩
    rw [hnd] at HD hcd1 hdl ⊢
    have HND := Lib.hid hnd
    clear rd hown hb1 HPT hnd
    go_wp2_with fail
    go_loopw [5, 6] (fun v5 v6 wr => ∃ (i : Nat) (cs : List (List Nat)), i ≤ nd ∧ v6 = .int .i64 i ∧ cs.length ≤ i ∧ Hid (wr.ownsRow w1.heap.size 9 1 v5 cs.length (strV cs)) ∧ Hid (CluRel d i cs) ∧ Hid (Below w1.heap.size w1 wr)) (fun _ v6 _ => nd - (intOf v6).toNat)
    case atStart => exact ⟨0, [], Nat.zero_le _, rfl, Nat.le_refl _, World.ownsRow_nil _ _ _ _, .inl ⟨rfl, rfl⟩, Below.refl _ _⟩
    case round =>
      obtain ⟨i, cs, hi, rfl, hcsl, HO, HCR, HBR⟩ := hrel
      have hszw := HBR.out.size
      by_cases hlt : i < nd
      · have hiz : (i : Int) < (nd : Int) := by omega
        obtain ⟨ad, p, rfl, hbl, hp, hcp⟩ := HD.out.at_ hlt
        have hcpr : wr.cell? (ad.add i) = some (.int .i64 (p : Int)) := (HBR.out.cell (by rw [block_of_add]; exact hbl)).trans hcp
        have HP := Lib.hid hp; clear hp hcp
        have HCP : Hid (∀ W, Below w1.heap.size w1 W → W.cell? (ad.add i) = some (.int .i64 (p : Int))) := by
          obtain ⟨ad2, p2, e1, _, hp2, hcp2⟩ := HD.out.at_ hlt
          cases e1
          have : p2 = p := by have := HP.out; rw [hp2] at this; exact Option.some.inj this
          subst this
          exact fun W hW => (hW.cell (by rw [block_of_add]; exact hbl)).trans hcp2
        have HPS : Hid (scalarB (p : Int) = true) := HSC.out p (List.mem_of_getElem? HP.out)
        have hpl := scalar_le HPS.out
        have HEN := Lib.hid fun W => encoded_any p W hpl
        have hel : (strL (encL (p : Int))).size ≤ 4 := by rw [strL_size]; exact (encL_len _).2
        by_cases hi0 : i = 0
        · have hcs : cs = [] := by
            rcases HCR.out with ⟨_, h⟩ | ⟨h, _⟩
            · exact h
            · omega
          subst hcs
          obtain ⟨c2, hc2⟩ : ∃ c2, c2 = [p] := ⟨_, rfl⟩
          have HC2 : Hid (([] : List Nat) ++ [p] = c2) := hc2.symm
          have HCI : Hid (([] : List Nat).length ≤ i) := Nat.zero_le _
          have HRL : Hid (CluRel d (i + 1) (([] : List (List Nat)) ++ [c2])) := by
            have h0 := HP.out
            rw [hi0] at h0 ⊢
            rw [hc2]
            exact CluRel.start h0
          clear hc2
          have he0 : ((i : Int) == 0) = true := beq_iff_eq.2 (by omega)
          have HI0 : Hid (i = 0) := hi0
          go_wp2_with (at_builtin; refine wpList_app1 rfl (.tmp 30) (.tmp 31) 36 rfl w1.heap.size 9 16 (.string .empty) info_string rfl Tryd.underlying36 rfl HO.out rfl rfl (by omega) (by omega) hszw ?_; rintro v7 w2 hown7 hb7 hs7 hk7; clear hk7)
          obtain ⟨g, cap, rfl, _, _⟩ := hown7.form (by omega)
          obtain ⟨k, hk⟩ : ∃ k, k = 0 := ⟨0, rfl⟩
          obtain ⟨n1, hn1⟩ : ∃ n1, n1 = 0 + 1 := ⟨_, rfl⟩
          obtain ⟨x, hx⟩ : ∃ x, strC [] = x := ⟨_, rfl⟩
          have HX := Lib.hid hx
          have HK : Hid (([] : List (List Nat)).length = k) := by show _ = _; rw [hk]; rfl
          have HROW : Hid (w2.ownsRow w1.heap.size 9 1 (.slice (some ⟨g, 0, none⟩) n1 cap) n1 (strV ([] ++ [[]]))) := by
            show World.ownsRow _ _ _ _ _ _ _
            rw [hn1]
            exact hown7
          have HBW : Hid (Below w1.heap.size w1 w2) := HBR.out.trans hb7
          have HCL : Hid ((([] : List (List Nat)) ++ [c2]).length ≤ i + 1) := by show _ ≤ _; simp
          have hn1k : n1 = k + 1 := by omega
          have HN1 : Hid (n1 = k + 1) := hn1k
          have hki : k ≤ i := by omega
          rw [show (List.length ([] : List (List Nat)) + 1) = n1 by rw [hn1]; rfl]
          clear hx hk hown7 hb7 hs7 hn1 hi0 he0
          have hkn : k + 1 = n1 := by omega
          have hcl : w2.cell? ⟨g, k, none⟩ = some (.string x) := by
            rw [HROW.out.cellAt k (by omega)]
            unfold strV
            rw [List.map_append, List.getElem?_append_right (by rw [List.length_map, HK.out]; exact Nat.le_refl _), List.length_map, HK.out, Nat.sub_self, ← HX.out]
            rfl
          have hfl : w2.frozen? ⟨g, k, none⟩ = false := HROW.out.frozenAt k
          have hgl : g < w2.heap.size := (HROW.out.lt g rfl).2
          have hxs : x.size ≤ 4 * i := by
            rw [← HX.out]
            unfold strC
            rw [strL_size]
            exact Nat.le_trans (encS_le ([] : List Nat)) (by have := HCI.out; omega)
          have hcat : x.size + (strL (encL (p : Int))).size ≤ 9223372036854775807 := by omega
          have HCC : Hid (x ++ strL (encL (p : Int)) = strC c2) := by
            refine ba_ext ?_
            rw [← HC2.out]
            unfold strC
            rw [app_data, strL_data, strL_data, ← HX.out, encS_app, encS_one]
            unfold strC
            rw [strL_data]
          have hj1 : wrap64 ((n1 : Int) - 1) = (k : Int) := by unfold wrap64; omega
          have hj2 : (n1 : Int) - 1 = (k : Int) := by omega
          have hj3 : n1 - 1 = k := by omega
          have hj4 : ((n1 : Int) - 1).toNat = k := by omega
          have hj5 : IntKind.i64.wrap ((n1 : Int) - 1) = (k : Int) := by rw [hj2]; exact IntWalk.i64_in _ (by omega)
          have hj6 : IntKind.i64.wrap (k : Int) = (k : Int) := IntWalk.i64_in _ (by omega)
          have hjn : (k : Int) < (n1 : Int) := by omega
          have hjn' : k < n1 := by omega
          have hjA : (0 : Int) ≤ (k : Int) := by omega
          have hcpW : w2.cell? (ad.add i) = some (.int .i64 (p : Int)) := HCP.out _ HBW.out
          have eaddr : (⟨g, 0, none⟩ : Addr).add k = ⟨g, k, none⟩ := by
            unfold Addr.add
            split
            · rename_i h; simp [h]
            · simp
          clear hkn hn1k
          have hcp0 : w2.cell? ad = some (.int .i64 (p : Int)) := by
            have h0 := hcpW
            rw [HI0.out] at h0
            simpa [Addr.add] using h0
          go_region_with ((go_at_call 42; refine (HEN.out _).mono ?_; rintro e w3 ⟨rfl, hb3⟩
                           have hl3 : w3.cell? ⟨g, k, none⟩ = some (.string x) := (hb3.cell hgl).trans hcl
                           have hf3 : w3.frozen? ⟨g, k, none⟩ = false := (hb3.frozen hgl).trans hfl))
          all_goals
            have HBB : Hid (Below w2.heap.size w2 w3) := (Below.refl _ w2).drew.trans hb3
            have hown3 := own_below HROW.out HBB.out
            have hst := own_stored (c' := c2) hown3 HK.out
            have HO4 : Hid ((w3.setCell ⟨g, k, none⟩ (.string (strC c2))).ownsRow w1.heap.size 9 1 (.slice (some ⟨g, 0, none⟩) n1 cap) (([] : List (List Nat)) ++ [c2]).length (strV (([] : List (List Nat)) ++ [c2]))) := by
              have h0 := hst.1
              show World.ownsRow _ _ _ _ _ _ _
              rw [List.length_append, HK.out, List.length_singleton, ← HN1.out]
              exact h0
            have HB4 : Hid (Below w1.heap.size w1 (w3.setCell ⟨g, k, none⟩ (.string (strC c2)))) := (HBW.out.trans (HBB.out.mono HBW.out.size)).trans hst.2
            clear hst hown3 hb3 hl3 hf3
            rw [HCC.out]
            go_wp2
            go_roundw
            case rel => exact ⟨i + 1, ([] : List (List Nat)) ++ [c2], by omega, (by rw [HI0.out]; rfl), HCL.out, HO4, HRL.out, HB4⟩
            case measure => have := HI0.out; simp [intOf]; omega
        · have he0 : ((i : Int) == 0) = false := beq_eq_false_iff_ne.2 (by omega)
          obtain ⟨done, c, hcs, hcl0, hcl1⟩ : ∃ done c, cs = done ++ [c] ∧ c.length ≤ i ∧ clus d = done ++ cluGo c (d.drop i) := by
            rcases HCR.out with ⟨h, _⟩ | ⟨_, h⟩
            · omega
            · exact h
          subst hcs
          have HCL1 := Lib.hid hcl1; clear hcl1
          obtain ⟨mp, hmp⟩ : ∃ b, Hid (mk p = b) := ⟨_, rfl⟩
          have HMK : Hid (Calls Tryd.prog 41 #[.int .i64 (p : Int)] wr fun e w' => e = .returned (.bool mp) ∧ wr = w') := mono_eq (refMark_any p wr) (by rw [← hmp.out]; rfl)
          obtain ⟨m0, hm0⟩ : ∃ m0, (done ++ [c]).length = m0 := ⟨_, rfl⟩
          rw [hm0] at HO hcsl
          have HM0 := Lib.hid hm0
          clear hm0 hi0
          cases mp with
          | false =>
            obtain ⟨c2, hc2⟩ : ∃ c2, c2 = [p] := ⟨_, rfl⟩
            have HC2 : Hid (([] : List Nat) ++ [p] = c2) := hc2.symm
            have HCI : Hid (([] : List Nat).length ≤ i) := Nat.zero_le _
            have HRL : Hid (CluRel d (i + 1) ((done ++ [c]) ++ [c2])) := by
              rw [hc2]
              exact CluRel.base HCL1.out hcl0 HP.out hmp.out
            clear hc2
            go_wp2_with (first
              | (go_at_call 41; refine HMK.out.mono ?_; rintro e w2 ⟨rfl, rfl⟩)
              | (at_builtin; refine wpList_app1 rfl (.tmp 30) (.tmp 31) 36 rfl w1.heap.size 9 16 (.string .empty) info_string rfl Tryd.underlying36 rfl HO.out rfl rfl (by omega) (by omega) hszw ?_; rintro v7 w2 hown7 hb7 hs7 hk7; clear hk7))
            obtain ⟨g, cap, rfl, _, _⟩ := hown7.form (by omega)
            obtain ⟨n1, hn1⟩ : ∃ n1, n1 = m0 + 1 := ⟨_, rfl⟩
            obtain ⟨k, hk⟩ : ∃ k, k = m0 := ⟨_, rfl⟩
            obtain ⟨x, hx⟩ : ∃ x, strC [] = x := ⟨_, rfl⟩
            have HX := Lib.hid hx
            have HK : Hid ((done ++ [c]).length = k) := by show _ = _; rw [hk]; exact HM0.out
            have HROW : Hid (w2.ownsRow w1.heap.size 9 1 (.slice (some ⟨g, 0, none⟩) n1 cap) n1 (strV ((done ++ [c]) ++ [[]]))) := by
              show World.ownsRow _ _ _ _ _ _ _
              rw [hn1]
              unfold strV
              rw [List.map_append]
              exact hown7
            have HBW : Hid (Below w1.heap.size w1 w2) := HBR.out.trans hb7
            have HCL : Hid (((done ++ [c]) ++ [c2]).length ≤ i + 1) := by show _ ≤ _; rw [List.length_append, HM0.out]; simp; omega
            have hn1k : n1 = k + 1 := by omega
            have HN1 : Hid (n1 = k + 1) := hn1k
            have hki : k ≤ i := by omega
            rw [← hn1]
            clear hx hk hown7 hb7 hs7 hn1 he0
            have hkn : k + 1 = n1 := by omega
            have hcl : w2.cell? ⟨g, k, none⟩ = some (.string x) := by
              rw [HROW.out.cellAt k (by omega)]
              unfold strV
              rw [List.map_append, List.getElem?_append_right (by rw [List.length_map, HK.out]; exact Nat.le_refl _), List.length_map, HK.out, Nat.sub_self, ← HX.out]
              rfl
            have hfl : w2.frozen? ⟨g, k, none⟩ = false := HROW.out.frozenAt k
            have hgl : g < w2.heap.size := (HROW.out.lt g rfl).2
            have hxs : x.size ≤ 4 * i := by
              rw [← HX.out]
              unfold strC
              rw [strL_size]
              exact Nat.le_trans (encS_le ([] : List Nat)) (by have := HCI.out; omega)
            have hcat : x.size + (strL (encL (p : Int))).size ≤ 9223372036854775807 := by omega
            have HCC : Hid (x ++ strL (encL (p : Int)) = strC c2) := by
              refine ba_ext ?_
              rw [← HC2.out]
              unfold strC
              rw [app_data, strL_data, strL_data, ← HX.out, encS_app, encS_one]
              unfold strC
              rw [strL_data]
            have hj1 : wrap64 ((n1 : Int) - 1) = (k : Int) := by unfold wrap64; omega
            have hj2 : (n1 : Int) - 1 = (k : Int) := by omega
            have hj3 : n1 - 1 = k := by omega
            have hj4 : ((n1 : Int) - 1).toNat = k := by omega
            have hj5 : IntKind.i64.wrap ((n1 : Int) - 1) = (k : Int) := by rw [hj2]; exact IntWalk.i64_in _ (by omega)
            have hj6 : IntKind.i64.wrap (k : Int) = (k : Int) := IntWalk.i64_in _ (by omega)
            have hjn : (k : Int) < (n1 : Int) := by omega
            have hjn' : k < n1 := by omega
            have hjA : (0 : Int) ≤ (k : Int) := by omega
            have hcpW : w2.cell? (ad.add i) = some (.int .i64 (p : Int)) := HCP.out _ HBW.out
            have eaddr : (⟨g, 0, none⟩ : Addr).add k = ⟨g, k, none⟩ := by
              unfold Addr.add
              split
              · rename_i h; simp [h]
              · simp
            clear hkn hn1k
            go_region_with ((go_at_call 42; refine (HEN.out _).mono ?_; rintro e w3 ⟨rfl, hb3⟩
                             have hl3 : w3.cell? ⟨g, k, none⟩ = some (.string x) := (hb3.cell hgl).trans hcl
                             have hf3 : w3.frozen? ⟨g, k, none⟩ = false := (hb3.frozen hgl).trans hfl))
            all_goals
              have HBB : Hid (Below w2.heap.size w2 w3) := (Below.refl _ w2).drew.trans hb3
              have hown3 := own_below HROW.out HBB.out
              have hst := own_stored (c' := c2) hown3 HK.out
              have HO4 : Hid ((w3.setCell ⟨g, k, none⟩ (.string (strC c2))).ownsRow w1.heap.size 9 1 (.slice (some ⟨g, 0, none⟩) n1 cap) ((done ++ [c]) ++ [c2]).length (strV ((done ++ [c]) ++ [c2]))) := by
                have h0 := hst.1
                show World.ownsRow _ _ _ _ _ _ _
                rw [List.length_append, HK.out, List.length_singleton, ← HN1.out]
                exact h0
              have HB4 : Hid (Below w1.heap.size w1 (w3.setCell ⟨g, k, none⟩ (.string (strC c2)))) := (HBW.out.trans (HBB.out.mono HBW.out.size)).trans hst.2
              clear hst hown3 hb3 hl3 hf3
              rw [HCC.out]
              go_wp2
              go_roundw
              case rel => exact ⟨i + 1, (done ++ [c]) ++ [c2], by omega, by go_num, HCL.out, HO4, HRL.out, HB4⟩
              case measure => simp [intOf]; omega
          | true =>
            obtain ⟨c2, hc2⟩ : ∃ c2, c2 = c ++ [p] := ⟨_, rfl⟩
            have HC2 : Hid (c ++ [p] = c2) := hc2.symm
            have HCI : Hid (c.length ≤ i) := hcl0
            have HRL : Hid (CluRel d (i + 1) (done ++ [c2])) := by
              rw [hc2]
              exact CluRel.mark HCL1.out hcl0 HP.out hmp.out
            clear hc2
            have hm1 : 1 ≤ m0 := by have := HM0.out; simp at this; omega
            obtain ⟨g, cap, rfl, _, _⟩ := HO.out.form (by omega)
            obtain ⟨n1, hn1⟩ : ∃ n1, n1 = m0 := ⟨_, rfl⟩
            obtain ⟨k, hk⟩ : ∃ k, k + 1 = m0 := ⟨m0 - 1, by omega⟩
            obtain ⟨x, hx⟩ : ∃ x, strC c = x := ⟨_, rfl⟩
            have HX := Lib.hid hx
            have HK : Hid (done.length = k) := by show _ = _; have := HM0.out; simp at this; omega
            have HROW : Hid (wr.ownsRow w1.heap.size 9 1 (.slice (some ⟨g, 0, none⟩) n1 cap) n1 (strV (done ++ [c]))) := by
              show World.ownsRow _ _ _ _ _ _ _
              rw [hn1]
              exact HO.out
            have HBW : Hid (Below w1.heap.size w1 wr) := HBR.out
            have HCL : Hid ((done ++ [c2]).length ≤ i + 1) := by show _ ≤ _; rw [List.length_append, HK.out]; simp; omega
            have hn1k : n1 = k + 1 := by omega
            have HN1 : Hid (n1 = k + 1) := hn1k
            have hki : k ≤ i := by omega
            rw [← hn1]
            clear hx hk hn1
            have hkn : k + 1 = n1 := by omega
            have hcl : wr.cell? ⟨g, k, none⟩ = some (.string x) := by
              rw [HROW.out.cellAt k (by omega)]
              unfold strV
              rw [List.map_append, List.getElem?_append_right (by rw [List.length_map, HK.out]; exact Nat.le_refl _), List.length_map, HK.out, Nat.sub_self, ← HX.out]
              rfl
            have hfl : wr.frozen? ⟨g, k, none⟩ = false := HROW.out.frozenAt k
            have hgl : g < wr.heap.size := (HROW.out.lt g rfl).2
            have hxs : x.size ≤ 4 * i := by
              rw [← HX.out]
              unfold strC
              rw [strL_size]
              exact Nat.le_trans (encS_le c) (by have := HCI.out; omega)
            have hcat : x.size + (strL (encL (p : Int))).size ≤ 9223372036854775807 := by omega
            have HCC : Hid (x ++ strL (encL (p : Int)) = strC c2) := by
              refine ba_ext ?_
              rw [← HC2.out]
              unfold strC
              rw [app_data, strL_data, strL_data, ← HX.out, encS_app, encS_one]
              unfold strC
              rw [strL_data]
            have hj1 : wrap64 ((n1 : Int) - 1) = (k : Int) := by unfold wrap64; omega
            have hj2 : (n1 : Int) - 1 = (k : Int) := by omega
            have hj3 : n1 - 1 = k := by omega
            have hj4 : ((n1 : Int) - 1).toNat = k := by omega
            have hj5 : IntKind.i64.wrap ((n1 : Int) - 1) = (k : Int) := by rw [hj2]; exact IntWalk.i64_in _ (by omega)
            have hj6 : IntKind.i64.wrap (k : Int) = (k : Int) := IntWalk.i64_in _ (by omega)
            have hjn : (k : Int) < (n1 : Int) := by omega
            have hjn' : k < n1 := by omega
            have hjA : (0 : Int) ≤ (k : Int) := by omega
            have hcpW : wr.cell? (ad.add i) = some (.int .i64 (p : Int)) := HCP.out _ HBW.out
            have eaddr : (⟨g, 0, none⟩ : Addr).add k = ⟨g, k, none⟩ := by
              unfold Addr.add
              split
              · rename_i h; simp [h]
              · simp
            clear hkn hn1k
            go_wp2_with (go_at_call 41; refine HMK.out.mono ?_; rintro e w2 ⟨rfl, rfl⟩)
            clear he0
            go_region_with ((go_at_call 42; refine (HEN.out _).mono ?_; rintro e w3 ⟨rfl, hb3⟩
                             have hl3 : w3.cell? ⟨g, k, none⟩ = some (.string x) := (hb3.cell hgl).trans hcl
                             have hf3 : w3.frozen? ⟨g, k, none⟩ = false := (hb3.frozen hgl).trans hfl))
            all_goals
              have HBB : Hid (Below wr.heap.size wr w3) := (Below.refl _ wr).drew.trans hb3
              have hown3 := own_below HROW.out HBB.out
              have hst := own_stored (c' := c2) hown3 HK.out
              have HO4 : Hid ((w3.setCell ⟨g, k, none⟩ (.string (strC c2))).ownsRow w1.heap.size 9 1 (.slice (some ⟨g, 0, none⟩) n1 cap) (done ++ [c2]).length (strV (done ++ [c2]))) := by
                have h0 := hst.1
                show World.ownsRow _ _ _ _ _ _ _
                rw [List.length_append, HK.out, List.length_singleton, ← HN1.out]
                exact h0
              have HB4 : Hid (Below w1.heap.size w1 (w3.setCell ⟨g, k, none⟩ (.string (strC c2)))) := (HBW.out.trans (HBB.out.mono HBW.out.size)).trans hst.2
              clear hst hown3 hb3 hl3 hf3
              rw [HCC.out]
              go_wp2
              go_roundw
              case rel => exact ⟨i + 1, done ++ [c2], by omega, by go_num, HCL.out, HO4, HRL.out, HB4⟩
              case measure => simp [intOf]; omega
      · obtain rfl : nd = i := by omega
        have hiz : ¬ (nd : Int) < (nd : Int) := by omega
        have HFIN : Hid (clus d = cs) := by
          have := HCR.out
          rw [← HND.out] at this
          exact this.fin
        go_wp2
        go_ret
        refine ⟨_, rfl, ?_, HB1.out.trans (HBR.out.mono HB1.out.size)⟩
        rw [HFIN.out]
        have h6 := own_base HO.out HB1.out.size
        simpa [strV, List.map_map, Function.comp_def] using h6
end Go.Proofs.YtacfeabdeaikhaaDoor
