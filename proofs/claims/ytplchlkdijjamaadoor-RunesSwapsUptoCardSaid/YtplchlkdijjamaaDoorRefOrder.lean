import Derived.Test.YtplchlkdijjamaaDoorRefOrd
namespace Go.Proofs.YtplchlkdijjamaaDoor
open Go.RowKit Ru
set_option linter.unusedVariables false
set_option linter.unusedSimpArgs false

theorem encS_le (l : List Nat) : (encS l).length ≤ 4 * l.length := by
  have := flat_le (l.map fun (p : Nat) => (p : Int))
  rw [List.flatMap_map, List.length_map] at this
  exact this
theorem sc_le {l : List Nat} (h : Sc l) : ∀ p ∈ l, p ≤ 1114111 := fun p hp => scalar_le (h p hp)
theorem ordR_len (l : List Nat) (m : Nat) : (ordR l m).length = l.length + 1 := by
  have := (ordR_perm l m).length_eq
  simpa using this
theorem sc_ordR {l : List Nat} {m : Nat} (h : Sc l) (hm : scalarB (m : Int) = true) : Sc (ordR l m) := fun p hp => by
  rcases List.mem_cons.1 ((ordR_perm l m).mem_iff.1 hp) with rfl | h2
  · exact hm
  · exact h p h2
theorem drop_at {α : Type} {l : List α} {k : Nat} {x : α} (h : l[k]? = some x) : l.drop k = x :: l.drop (k + 1) := by
  obtain ⟨hk, rfl⟩ := List.getElem?_eq_some_iff.1 h
  exact List.drop_eq_getElem_cons hk
theorem refOf_nat (A : Option Addr) (n c : Nat) (l : List Nat) (w : World) (h : NR w w.heap.size A n l) (hn : n ≤ 1099511627776) (hs : Sc l) :
    Calls Tryd.prog 18 #[.slice A n c] w fun e w' => e = .returned (.tuple #[.string (strL (encS l)), .bool true]) ∧ Below w.heap.size w w' :=
  mono_eq (refOf_any A n c _ w h.ints hn) (by rw [ofI_nat hs]; rfl)
/-- The cluster that is open, as it lies in memory. -/
def Open_ (wr : World) (v : Value) (cl : List Nat) : Prop := ∃ A c, v = .slice A cl.length c ∧ NR wr wr.heap.size A cl.length cl ∧ cl.length ≤ c ∧ c ≤ 9223372036854775807
theorem Open_.of_own {w : World} {b e n : Nat} {v : Value} {cl : List Nat} (h : w.ownsRow b e 1 v n (cl.map fun (p : Nat) => Value.int .i64 (p : Int))) (hn : cl.length = n) : Open_ w v cl := by
  obtain ⟨A, c, rfl, h1, h2, hr⟩ := own_form h
  subst hn
  exact ⟨A, c, rfl, hr, h1, h2⟩
theorem Open_.on {w w' : World} {v : Value} {cl : List Nat} (h : Open_ w v cl) (hb : Below w.heap.size w w') : Open_ w' v cl := by
  obtain ⟨A, c, e, hr, h1, h2⟩ := h
  exact ⟨A, c, e, hr.on hb, h1, h2⟩
def ordPost (s : ByteArray) : Value := .string (strL (order s.data.toList))
theorem order_none {s : List UInt8} (h : points s = none) : order s = s := by unfold order; rw [h]
theorem order_some {s : List UInt8} {d : List Nat} (h : points s = some d) : order s = encS (ords d) := by unfold order; rw [h]

set_option maxHeartbeats 2000000 in
set_option maxRecDepth 100000 in
theorem refOrder_any (s : ByteArray) (w : World) (hs : s.size ≤ 1099511627) :
    Calls Tryd.prog 25 #[.string s] w fun e w' => e = .returned (ordPost s) ∧ Below w.heap.size w w' := by
  have HPT := Lib.hid (points02_any s w (by omega))
  obtain ⟨o, ho⟩ : ∃ o, Hid (points s.data.toList = o) := ⟨_, rfl⟩
  rw [ho.out] at HPT
  cases o with
  | none =>
    have HRES : Hid (ordPost s = .string s) := by
      show _ = _
      unfold ordPost
      rw [order_none ho.out, ← strL_of rfl]
    rw [HRES.out]
    go_enter Tryd.func25, Tryd.ntmps25
    go_wp2_with fail
    refine HPT.out.mono ?_
    rintro e w1 ⟨h1, _, hb1⟩
    rw [h1 rfl]
    clear h1
    go_wp2
    go_ret
    exact ⟨rfl, hb1⟩
  | some d =>
    have HSC : Hid (Sc d) := points_sc ho.out
    have hdl : d.length ≤ 1099511627 := by
      have := points_length _ _ _ (Nat.le_refl _) ho.out
      rw [← Lib.size_eq] at this
      omega
    have HRES : Hid (ordPost s = .string (strL (encS (ords d)))) := by
      show _ = _
      unfold ordPost
      rw [order_some ho.out]
    rw [HRES.out]
    go_enter Tryd.func25, Tryd.ntmps25
    go_wp2_with fail
    refine HPT.out.mono ?_
    rintro e w1 ⟨_, h2, hb1⟩
    obtain ⟨v, rfl, hown⟩ := h2 d rfl
    clear h2
    obtain ⟨AD, cd, rfl, hcd1, hcd2, rd⟩ := own_form hown
    have HD : Hid (NR w1 w1.heap.size AD d.length d) := rd
    have HB1 := Lib.hid hb1
    obtain ⟨nd, hnd⟩ : ∃ q, d.length = q := ⟨_, rfl⟩
    rw [hnd] at HD hcd1 hdl ⊢
    have HND := Lib.hid hnd
    clear rd hown hb1 HPT hnd
    go_wp2_with fail
    go_loopw [5, 6, 7, 8, 9] (fun v5 v6 v7 _ _ wr => ∃ (i : Nat) (ob : ByteArray) (ol cl : List Nat), i ≤ nd ∧ v7 = .int .i64 i ∧ v5 = .string ob ∧ ol.length + cl.length = i ∧ Hid (Open_ wr v6 cl) ∧ Hid (Sc cl) ∧ Hid (ob.data.toList = encS ol) ∧
      Hid (ords d = ol ++ ordGo cl (d.drop i)) ∧ Hid (Below w1.heap.size w1 wr)) (fun _ _ v7 _ _ _ => nd - (intOf v7).toNat)
    case atStart => exact ⟨0, ⟨#[]⟩, [], [], Nat.zero_le _, rfl, rfl, rfl, ⟨none, 0, rfl, Reads.none_, Nat.le_refl _, by omega⟩, (fun p hp => by simp at hp), rfl, rfl, Below.refl _ _⟩
    case round =>
      obtain ⟨i, ob, ol, cl, hi, rfl, rfl, hlen, HOP, HSCL, HOB, HORD, HBR⟩ := hrel
      obtain ⟨A, c, rfl, hnr, hc1, hc2⟩ := HOP.out
      have HNR := Lib.hid hnr; clear hnr
      have hob : ob.size ≤ 4 * ol.length := by
        rw [Lib.size_eq, HOB.out]
        exact encS_le ol
      have HOF := Lib.hid (refOf_nat A cl.length c cl wr HNR.out (by omega) HSCL.out)
      by_cases hlt : i < nd
      · have hiz : (i : Int) < (nd : Int) := by omega
        obtain ⟨ad, p, rfl, _, hp, hcp⟩ := (NR.on HD.out HBR.out).at_ hlt
        have HP := Lib.hid hp; clear hp
        have HPS : Hid (scalarB (p : Int) = true) := HSC.out p (List.mem_of_getElem? HP.out)
        have hpl := scalar_le HPS.out
        obtain ⟨mp, hmp⟩ : ∃ b, Hid (mk p = b) := ⟨_, rfl⟩
        have HMK : Hid (Calls Tryd.prog 28 #[.int .i64 (p : Int)] wr fun e w' => e = .returned (.bool mp) ∧ wr = w') := mono_eq (refMark_any p wr) (by rw [← hmp.out]; rfl)
        cases mp with
        | true =>
          have HOR := Lib.hid (ordered_any A cl.length c cl p wr HNR.out hc1 hc2 (by omega) hpl (sc_le HSCL.out))
          have HORD2 : Hid (ords d = ol ++ ordGo (ordR cl p) (d.drop (i + 1))) := by
            show _ = _
            rw [HORD.out, drop_at HP.out]
            show ol ++ (if mk p = true then ordGo (ordR cl p) (d.drop (i + 1)) else _) = _
            rw [if_pos hmp.out]
          have HSC2 : Hid (Sc (ordR cl p)) := sc_ordR HSCL.out HPS.out
          have hlen2 : ol.length + (ordR cl p).length = i + 1 := by rw [ordR_len]; omega
          have HLEN2 := Lib.hid hlen2; clear hlen2
          go_wp2_with (first
            | (go_at_call 28; refine HMK.out.mono ?_; rintro e w2 ⟨rfl, rfl⟩)
            | (go_at_call 39; refine HOR.out.mono ?_; rintro e w2 ⟨v2, rfl, hown2, hb2⟩))
          have HOP2 : Hid (Open_ w2 v2 (ordR cl p)) := Open_.of_own hown2 (ordR_len cl p)
          have HB2 : Hid (Below w1.heap.size w1 w2) := HBR.out.trans (hb2.mono HBR.out.size)
          clear hown2 hb2
          go_roundw
          case rel => exact ⟨i + 1, ob, ol, ordR cl p, by omega, by go_num, rfl, HLEN2.out, HOP2, HSC2, HOB, HORD2, HB2⟩
          case measure => simp [intOf]; omega
        | false =>
          have hel : (strL (encS cl)).size ≤ 4 * cl.length := by rw [strL_size]; exact encS_le cl
          have hcat : ob.size + (strL (encS cl)).size ≤ 9223372036854775807 := by omega
          have HORD2 : Hid (ords d = (ol ++ cl) ++ ordGo [p] (d.drop (i + 1))) := by
            show _ = _
            rw [HORD.out, drop_at HP.out]
            show ol ++ (if mk p = true then _ else cl ++ ordGo [p] (d.drop (i + 1))) = _
            rw [hmp.out, if_neg (by simp), List.append_assoc]
          have HOB2 : Hid ((ob ++ strL (encS cl)).data.toList = encS (ol ++ cl)) := by
            show _ = _
            rw [app_data, HOB.out, strL_data, encS_app]
          have HSC2 : Hid (Sc [p]) := fun q hq => by
            obtain rfl : q = p := by simpa using hq
            exact HPS.out
          have HLEN2 : Hid ((ol ++ cl).length + [p].length = i + 1) := by show _ = _; simp; omega
          go_wp2_with (first
            | (go_at_call 28; refine HMK.out.mono ?_; rintro e w2 ⟨rfl, rfl⟩)
            | (go_at_call 18; refine HOF.out.mono ?_; rintro e w2 ⟨rfl, hb2⟩
               have HB2 : Hid (Below w1.heap.size w1 w2) := HBR.out.trans (hb2.mono HBR.out.size)
               have hcp2 : w2.cell? (ad.add i) = some (.int .i64 (p : Int)) := (hb2.cell (block_lt_of_cell hcp)).trans hcp
               clear hb2))
          have HOP2 : Hid (Open_ (w2.alloc (.cells #[.int .i64 (p : Int)] 3)) (.slice (some ⟨w2.heap.size, 0, none⟩) 1 1) [p]) := ⟨_, 1, rfl, (reads_one (W := w2) (e := 3) (x := .int .i64 (p : Int)) rfl).more (by simp), Nat.le_refl _, by omega⟩
          have HB3 : Hid (Below w1.heap.size w1 (w2.alloc (.cells #[.int .i64 (p : Int)] 3))) := HB2.out.alloc HB2.out.size _
          go_roundw
          case rel => exact ⟨i + 1, _, ol ++ cl, [p], by omega, by go_num, rfl, HLEN2.out, HOP2, HSC2, HOB2, HORD2, HB3⟩
          case measure => simp [intOf]; omega
      · obtain rfl : nd = i := by omega
        have hiz : ¬ (nd : Int) < (nd : Int) := by omega
        have hel : (strL (encS cl)).size ≤ 4 * cl.length := by rw [strL_size]; exact encS_le cl
        have hcat : ob.size + (strL (encS cl)).size ≤ 9223372036854775807 := by omega
        have HFIN : Hid (ob ++ strL (encS cl) = strL (encS (ords d))) := by
          refine strL_of ?_
          rw [app_data, HOB.out, strL_data, HORD.out, List.drop_of_length_le (by rw [HND.out]; exact Nat.le_refl _), ← encS_app]
          rfl
        go_wp2_with (go_at_call 18; refine HOF.out.mono ?_; rintro e w2 ⟨rfl, hb2⟩)
        go_ret
        refine ⟨?_, HB1.out.trans ((HBR.out.trans (hb2.mono HBR.out.size)).mono HB1.out.size)⟩
        rw [← HFIN.out]
        rfl
set_option maxHeartbeats 400000 in
theorem refSameO_any (s t : ByteArray) (w : World) (hs : s.size ≤ 1099511627) (ht : t.size ≤ 1099511627) :
    Calls Tryd.prog 27 #[.string s, .string t] w fun e w' => e = .returned (.bool (decide (order s.data.toList = order t.data.toList))) ∧ Below w.heap.size w w' := by
  have H1 := Lib.hid (refOrder_any s w hs)
  have H2 := Lib.hid fun W => refOrder_any t W ht
  have HE := Lib.hid (beq_bytes (strL (order s.data.toList)) (strL (order t.data.toList)))
  obtain ⟨a, ha⟩ : ∃ a, Hid (strL (order s.data.toList) = a) := ⟨_, rfl⟩
  obtain ⟨b, hb⟩ : ∃ b, Hid (strL (order t.data.toList) = b) := ⟨_, rfl⟩
  unfold ordPost at H1 H2
  rw [ha.out] at H1
  rw [hb.out] at H2
  have HR : Hid (decide (order s.data.toList = order t.data.toList) = (a.toList == b.toList)) := by
    show _ = _
    rw [← ha.out, ← hb.out, HE.out]
    congr 1
    refine propext ⟨fun h => by rw [h], fun h => ?_⟩
    have := congrArg (fun x : ByteArray => x.data.toList) h
    simpa [strL_data] using this
  rw [HR.out]
  clear HE
  go_enter Tryd.func27, Tryd.ntmps27
  go_wp2_with (first
    | (go_at_call 25; ((with_reducible refine H1.out.mono ?_); rintro e w1 ⟨rfl, hb1⟩))
    | (go_at_call 25; ((with_reducible refine (H2.out _).mono ?_); rintro e w2 ⟨rfl, hb2⟩)))
  go_ret
  exact ⟨rfl, hb1.trans (hb2.mono hb1.size)⟩
end Go.Proofs.YtplchlkdijjamaaDoor
