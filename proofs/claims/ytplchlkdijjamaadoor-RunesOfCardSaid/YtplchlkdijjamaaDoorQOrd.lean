import Derived.Test.YtplchlkdijjamaaDoorSortFunc
import Derived.Test.YtplchlkdijjamaaDoorQPts
import Derived.Test.YtplchlkdijjamaaDoorRefOrder
namespace Go.Proofs.YtplchlkdijjamaaDoor
open Go.RowKit Go.Shelf Ru Srt Col
set_option linter.unusedVariables false
set_option linter.unusedSimpArgs false

theorem ords_step {d : List Nat} {i t n : Nat} (hn : d.length = n) (hi : i < n) (hit : i + 1 ≤ t) (htn : t ≤ n) (hm : ∀ k, i + 1 ≤ k → k < t → ∃ q, d[k]? = some q ∧ mk q = true) (he : t = n ∨ ∃ q, d[t]? = some q ∧ mk q = false) :
    ords (d.drop i) = sortC ((d.drop i).take (t - i)) ++ ords (d.drop t) ∧ (d.drop i).take (t - i) ++ d.drop t = d.drop i ∧ ((d.drop i).take (t - i)).length = t - i := by
  have hi' : i < d.length := by omega
  have e1 : d.drop i = d[i] :: d.drop (i + 1) := List.drop_eq_getElem_cons hi'
  have e2 : (d.drop i).take (t - i) = d[i] :: (d.drop (i + 1)).take (t - i - 1) := by
    rw [e1, show t - i = (t - i - 1) + 1 by omega, List.take_succ_cons]
    rfl
  have e3 : d.drop t = (d.drop (i + 1)).drop (t - i - 1) := by
    rw [List.drop_drop]
    congr 1
    omega
  have e4 : (d.drop i).take (t - i) ++ d.drop t = d.drop i := by rw [e2, e3, List.cons_append, List.take_append_drop, ← e1]
  refine ⟨?_, e4, by simp; omega⟩
  conv => lhs; rw [← e4, e2]
  rw [e2]
  refine ords_seg _ _ _ (fun m hmm => ?_) (fun p tl e => ?_)
  · obtain ⟨k, hk, rfl⟩ := List.getElem_of_mem hmm
    simp only [List.length_take, List.length_drop] at hk
    obtain ⟨q, h1, h2⟩ := hm (i + 1 + k) (by omega) (by omega)
    have hk2 := (List.getElem?_eq_some_iff.1 h1).2
    simp only [List.getElem_take, List.getElem_drop]
    rw [hk2]
    exact h2
  · rcases he with h | ⟨q, h1, h2⟩
    · rw [List.drop_eq_nil_of_le (by omega)] at e
      cases e
    · have : (d.drop t)[0]? = some p := by rw [e]; rfl
      rw [List.getElem?_drop, Nat.add_zero, h1] at this
      cases this
      exact h2
theorem of_nat (A : Option Addr) (n c : Nat) (l : List Nat) (w : World) (h : NR w w.heap.size A n l) (hn : n ≤ 1099511627776) (hs : Sc l) :
    Calls Tryd.prog 17 #[.slice A n c] w fun e w' => e = .returned (.tuple #[.string (strL (Ru.encS l)), .bool true]) ∧ Below w.heap.size w w' :=
  mono_eq (of_any A n c _ w h.ints hn) (by rw [ofI_nat hs]; rfl)

theorem add_at (g t : Nat) : (⟨g, 0, none⟩ : Addr).add t = ⟨g, t, none⟩ := by
  unfold Addr.add
  split
  · rename_i h; simp [h]
  · simp

set_option maxHeartbeats 4000000 in
set_option maxRecDepth 1000000 in
theorem order_any (s : ByteArray) (w : World) (hs : s.size ≤ 1099511627) (hT : Tabs w) :
    Calls Tryd.prog 24 #[.string s] w fun e w' => e = .returned (ordPost s) ∧ Below w.heap.size w w' := by
  have HPT := Lib.hid (points_any s w (by omega) hT)
  obtain ⟨o, ho⟩ : ∃ o, Hid (points s.data.toList = o) := ⟨_, rfl⟩
  rw [ho.out] at HPT
  cases o with
  | none =>
    have HRES : Hid (ordPost s = .string s) := by
      show _ = _
      unfold ordPost
      rw [order_none ho.out, ← strL_of rfl]
    rw [HRES.out]
    clear hT
    go_enter Tryd.func24, Tryd.ntmps24
    go_wp2_with fail
    refine HPT.out.mono ?_
    rintro e w1 ⟨h1, _, hb1⟩
    rw [h1 rfl]
    clear h1
    go_wp2
    go_ret
    exact ⟨rfl, hb1⟩
  | some d =>
    have HSC : Hid (Sc d) := points_sc ho.out
    have hdl : d.length ≤ 1099511627 := by
      have := points_length _ _ _ (Nat.le_refl _) ho.out
      rw [← Lib.size_eq] at this
      omega
    have HRES : Hid (ordPost s = .string (strL (Ru.encS (ords d)))) := by
      show _ = _
      unfold ordPost
      rw [order_some ho.out]
    rw [HRES.out]
    clear hT
    go_enter Tryd.func24, Tryd.ntmps24
    go_wp2_with fail
    refine HPT.out.mono ?_
    rintro e w1 ⟨_, h2, hb1⟩
    obtain ⟨v, rfl, hown⟩ := h2 d rfl
    clear h2
    obtain ⟨AD, cd, rfl, hcd1, hcd2, _⟩ := own_form hown
    obtain ⟨nd, hnd⟩ : ∃ q, d.length = q := ⟨_, rfl⟩
    rw [hnd] at hown hcd1 hdl ⊢
    have HO0 : Hid (w1.ownsRow w.heap.size 3 1 (.slice AD nd cd) nd (natV ([] ++ d.drop 0))) := hown
    have HND := Lib.hid hnd
    have HB1 := Lib.hid hb1
    clear hown hb1 HPT hnd
    go_wp2_with fail
    go_loopg [5, 6] nd (fun g1 v5 v6 wr => ∃ (i : Nat) (pre : List Nat), v5 = .int .i64 i ∧ i ≤ nd ∧ nd - i ≤ g1 ∧ Hid (pre.length = i) ∧ Hid (wr.ownsRow w.heap.size 3 1 (.slice AD nd cd) nd (natV (pre ++ d.drop i))) ∧
      Hid (ords d = pre ++ ords (d.drop i)) ∧ Hid (Below w.heap.size w wr))
    case atStart => exact ⟨0, [], rfl, Nat.zero_le _, by omega, rfl, HO0, rfl, HB1⟩
    case round =>
      clear HO0 HB1
      obtain ⟨i, pre, rfl, hi, hg1, HPL, HO, HORD, HB⟩ := hrel
      by_cases hlt : i < nd
      · have hiz : (i : Int) < (nd : Int) := by omega
        obtain ⟨g, rfl⟩ : ∃ g, AD = some ⟨g, 0, none⟩ := by
          obtain ⟨g, cap, h1, _⟩ := HO.out.form (by omega)
          injection h1 with h1
          exact ⟨g, h1⟩
        go_wp2_with fail
        go_loopg [6] nd (fun g2 v6 wr2 => ∃ t : Nat, v6 = .int .i64 t ∧ i + 1 ≤ t ∧ t ≤ nd ∧ nd - t ≤ g2 ∧ Hid (wr2.ownsRow w.heap.size 3 1 (.slice (some ⟨g, 0, none⟩) nd cd) nd (natV (pre ++ d.drop i))) ∧
          Hid (Below w.heap.size w wr2) ∧ Hid (∀ k, i + 1 ≤ k → k < t → ∃ q, d[k]? = some q ∧ mk q = true))
        case atStart => exact ⟨i + 1, (by first | rfl | go_num), Nat.le_refl _, by omega, by omega, HO, HB, fun k h1 h2 => by omega⟩
        case round =>
          clear HO HB
          obtain ⟨t, rfl, ht1, ht2, hg2, HO, HB, HM⟩ := hrel
          have hszw := HB.out.size
          have HADD : Hid ((⟨g, 0, none⟩ : Addr).add t = ⟨g, t, none⟩) := add_at g t
          have HPART : Hid ((t = nd ∨ ∃ q, d[t]? = some q ∧ mk q = false) → ∀ cap2, Calls Tryd.prog 37 #[.slice (some ⟨g, i, none⟩) (t - i) cap2, .func (.func 38) #[] #[]] wr fun e w' => e = .returned (.tuple #[]) ∧
              ∃ pre2, Hid (pre2.length = t) ∧ Hid (w'.ownsRow w.heap.size 3 1 (.slice (some ⟨g, 0, none⟩) nd cd) nd (natV (pre2 ++ d.drop t))) ∧ Hid (ords d = pre2 ++ ords (d.drop t)) ∧ Hid (Below w.heap.size w w')) := by
            intro he cap2
            obtain ⟨k1, k2, k3⟩ := ords_step HND.out hlt ht1 ht2 HM.out he
            have hr : wr.ownsRow w.heap.size 3 1 (.slice (some ⟨g, 0, none⟩) nd cd) nd (natV (pre ++ (d.drop i).take (t - i) ++ d.drop t)) := by
              rw [List.append_assoc, k2]
              exact HO.out
            refine (part_any (cap2 := cap2) hr HPL.out k3 (by omega)).mono ?_
            rintro e w' ⟨rfl, h1, h2⟩
            exact ⟨rfl, pre ++ sortC ((d.drop i).take (t - i)), (by show _ = _; rw [List.length_append, HPL.out, (sortC_perm _).length_eq, k3]; omega), h1, (by show _ = _; rw [HORD.out, k1, List.append_assoc]), HB.out.trans h2⟩
          have hiti : (i : Int) ≤ (t : Int) := by omega
          have htn' : (t : Int) ≤ (nd : Int) := by omega
          by_cases htl : t < nd
          · have htz : (t : Int) < (nd : Int) := by omega
            obtain ⟨q, hq⟩ : ∃ q, d[t]? = some q := ⟨_, List.getElem?_eq_getElem (by rw [HND.out]; exact htl)⟩
            have HQ := Lib.hid hq
            have hcq : wr.cell? ⟨g, t, none⟩ = some (.int .i64 (q : Int)) := by
              refine (own_cells HO.out).1 t _ ?_
              unfold natV
              rw [List.getElem?_map, List.getElem?_append_right (by rw [HPL.out]; omega), HPL.out, List.getElem?_drop, show i + (t - i) = t by omega, hq]
              rfl
            have hcq2 : wr.cell? ((⟨g, 0, none⟩ : Addr).add t) = some (.int .i64 (q : Int)) := by rw [HADD.out]; exact hcq
            clear hq
            obtain ⟨mp, hmp⟩ : ∃ b, Hid (mk q = b) := ⟨_, rfl⟩
            have HMK : Hid (Calls Tryd.prog 35 #[.int .i64 (q : Int)] wr fun e w' => e = .returned (.bool mp) ∧ wr = w') := mono_eq (mark_any q wr) (by rw [← hmp.out]; rfl)
            cases mp with
            | true =>
              have HM2 : Hid (∀ k, i + 1 ≤ k → k < t + 1 → ∃ q, d[k]? = some q ∧ mk q = true) := fun k h1 h2 => by
                by_cases e : k = t
                · subst e; exact ⟨q, HQ.out, hmp.out⟩
                · exact HM.out k h1 (by omega)
              go_wp2_with (go_at_call 35; refine HMK.out.mono ?_; rintro e w2 ⟨rfl, rfl⟩)
              go_roundg (nd - (t + 1))
              case measure => omega
              case rel => exact ⟨t + 1, (by first | rfl | go_num), by omega, by omega, by omega, HO, HB, HM2⟩
            | false =>
              have HCALL := Lib.hid (HPART.out (.inr ⟨q, HQ.out, hmp.out⟩))
              clear HPART
              go_wp2_with (first
                | (go_at_call 35; refine HMK.out.mono ?_; rintro e w2 ⟨rfl, rfl⟩)
                | (go_at_call 37; refine (HCALL.out _).mono ?_; rintro e w2 ⟨rfl, pre2, HP2, HO2, HORD2, HB2⟩))
              go_roundg (nd - t)
              case measure => omega
              case rel => exact ⟨t, pre2, rfl, by omega, by omega, HP2, HO2, HORD2, HB2⟩
          · have htz : ¬ (t : Int) < (nd : Int) := by omega
            have HCALL := Lib.hid (HPART.out (.inl (by omega)))
            clear HPART
            go_wp2_with (go_at_call 37; refine (HCALL.out _).mono ?_; rintro e w2 ⟨rfl, pre2, HP2, HO2, HORD2, HB2⟩)
            go_roundg (nd - t)
            case measure => omega
            case rel => exact ⟨t, pre2, rfl, by omega, by omega, HP2, HO2, HORD2, HB2⟩
      · obtain rfl : nd = i := by omega
        have hiz : ¬ (nd : Int) < (nd : Int) := by omega
        have HPRE : Hid (pre = ords d) := by
          show _ = _
          rw [HORD.out, List.drop_of_length_le (by rw [HND.out]; exact Nat.le_refl _)]
          simp [ords, ordGo]
        have HNR : Hid (NR wr wr.heap.size AD nd (ords d)) := by
          obtain ⟨A', c', e1, _, _, hr⟩ := own_form HO.out
          injection e1 with e1
          subst e1
          rw [List.drop_of_length_le (by rw [HND.out]; exact Nat.le_refl _), List.append_nil, HPRE.out] at hr
          exact hr
        have HSO : Hid (Sc (ords d)) := fun p hp => HSC.out p ((ords_perm d).mem_iff.1 hp)
        have HOF := Lib.hid (of_nat AD nd cd (ords d) wr HNR.out (by omega) HSO.out)
        clear HNR HO
        go_wp2_with (go_at_call 17; refine HOF.out.mono ?_; rintro e w2 ⟨rfl, hb2⟩)
        go_ret
        exact ⟨rfl, HB.out.trans (hb2.mono HB.out.size)⟩
end Go.Proofs.YtplchlkdijjamaaDoor
