/-
  RunesPoints, RunesOf, RunesClass, RunesClusters, RunesOrders, walked: each returns true, and nothing that was there has changed.
-/
import Derived.Test.YtplchlkdijjamaaDoorAwake
namespace Go.Proofs.YtplchlkdijjamaaDoor
open Go.RowKit Ru
set_option linter.unusedVariables false
set_option linter.unusedSimpArgs false

theorem few_yes {s t : ByteArray} (hs : s.size ≤ 2000) (ht : t.size ≤ 2000) (w : World) : Calls Tryd.prog 12 #[.string s, .string t] w fun e w' => e = .returned (.bool true) ∧ w = w' :=
  mono_eq (few_any s t w) (by rw [decide_eq_true (by omega : (s.size : Int) ≤ 2000), decide_eq_true (by omega : (t.size : Int) ≤ 2000)]; rfl)
theorem few_no {s t : ByteArray} (h : ¬ (s.size ≤ 2000 ∧ t.size ≤ 2000)) (w : World) : Calls Tryd.prog 12 #[.string s, .string t] w fun e w' => e = .returned (.bool false) ∧ w = w' :=
  mono_eq (few_any s t w) (by
    by_cases h1 : s.size ≤ 2000
    · rw [decide_eq_false (by omega : ¬ (t.size : Int) ≤ 2000), Bool.and_false]
    · rw [decide_eq_false (by omega : ¬ (s.size : Int) ≤ 2000), Bool.false_and])
def intsO : Option (List Nat) → List Int
  | none => []
  | some d => d.map fun (p : Nat) => (p : Int)
theorem PointsPost.val {w w' : World} {o : Option (List Nat)} {e : Ending} (h : PointsPost w o e w') :
    ∃ A n c, e = .returned (.tuple #[.slice A n c, .bool o.isSome]) ∧ IR w' w'.heap.size A n (intsO o) ∧ n ≤ 9223372036854775807 ∧ Below w.heap.size w w' := by
  obtain ⟨h1, h2, h3⟩ := h
  cases o with
  | none => exact ⟨none, 0, 0, h1 rfl, Reads.none_, by omega, h3⟩
  | some d =>
    obtain ⟨v, rfl, hown⟩ := h2 d rfl
    obtain ⟨A, c, rfl, h5, h6, hr⟩ := own_form hown
    exact ⟨A, _, c, rfl, NR.ints hr, by omega, h3⟩

set_option maxHeartbeats 4000000 in
set_option maxRecDepth 100000 in
theorem points_law (s : ByteArray) (w : World) (hT : Tabs w) :
    Calls Tryd.prog 3 #[.string s] w fun e w' => e = .returned (.bool true) ∧ Below w.heap.size w w' := by
  have HT := Lib.hid hT
  clear hT
  by_cases hs : s.size ≤ 2000
  · have HF := Lib.hid fun W => few_yes hs (show (⟨#[]⟩ : ByteArray).size ≤ 2000 by decide) W
    have HP := Lib.hid (points_any s w (by omega) HT.out)
    have HR := Lib.hid fun W => points02_any s W (by omega)
    obtain ⟨o, ho⟩ : ∃ o, points s.data.toList = o := ⟨_, rfl⟩
    rw [ho] at HP HR
    clear ho
    obtain ⟨b, hb⟩ : ∃ b, Hid (o.isSome = b) := ⟨_, rfl⟩
    cases b
    all_goals
      go_enter Tryd.func3, Tryd.ntmps3
      go_wp2_with fail
      refine (HF.out _).mono ?_
      rintro e w1 ⟨rfl, rfl⟩
      go_wp2_with fail
      refine HP.out.mono ?_
      intro e w1 hpp
      obtain ⟨A1, n1, c1, rfl, hr1, hn1, hb1⟩ := hpp.val
      rw [hb.out]
      have R1 := Lib.hid hr1
      have HB1 := Lib.hid hb1
      clear hpp hr1 hb1
      go_wp2_with fail
      refine (HR.out _).mono ?_
      intro e w2 hpp
      obtain ⟨A2, n2, c2, rfl, hr2, hn2, hb2⟩ := hpp.val
      rw [hb.out]
      have HS := Lib.hid (same_ints A1 A2 n1 n2 c1 c2 _ _ w2 (IR.on R1.out hb2) hr2 hn1 hn2)
      have HB2 : Hid (Below w.heap.size w w2) := HB1.out.trans (hb2.mono HB1.out.size)
      rw [beq_self_eq_true] at HS
      clear hpp hr2 hb2 HB1
      go_wp2_with fail
      refine HS.out.mono ?_
      rintro e w3 ⟨rfl, k, rfl⟩
      have HB3 : Hid (Below w.heap.size w (w2.drewN k)) := below_drewN HB2.out _
      clear HB2
      go_wp2_with fail
      refine (awake_any _ (HT.out.on HB3.out)).mono ?_
      rintro e w4 ⟨rfl, hb4⟩
      go_wp2
      go_ret
      exact ⟨rfl, HB3.out.trans (hb4.mono HB3.out.size)⟩
  · have HF := Lib.hid fun W => few_no (s := s) (t := ⟨#[]⟩) (by omega) W
    go_enter Tryd.func3, Tryd.ntmps3
    go_wp2_with fail
    refine (HF.out _).mono ?_
    rintro e w1 ⟨rfl, rfl⟩
    go_wp2_with fail
    refine (awake_any _ HT.out).mono ?_
    rintro e w4 ⟨rfl, hb4⟩
    go_wp2
    go_ret
    exact ⟨rfl, hb4⟩

theorem ofV_form (o : Option (List UInt8)) : ∃ x b, ofV o = .tuple #[.string x, .bool b] := by
  cases o with
  | none => exact ⟨_, _, rfl⟩
  | some l => exact ⟨_, _, rfl⟩
set_option maxHeartbeats 4000000 in
set_option maxRecDepth 100000 in
theorem of_law (A : Option Addr) (n c : Nat) (l : List Int) (w : World) (hl : IR w w.heap.size A n l) (hn : n ≤ 9223372036854775807) (hT : Tabs w) :
    Calls Tryd.prog 4 #[.slice A n c] w fun e w' => e = .returned (.bool true) ∧ Below w.heap.size w w' := by
  have HT := Lib.hid hT
  clear hT
  by_cases hs : n ≤ 1000
  · have hsz : decide ((1000 : Int) < (n : Int)) = false := decide_eq_false (by omega)
    have HP := Lib.hid (of_any A n c l w hl (by omega))
    have HR := Lib.hid fun W (hb : Below w.heap.size w W) => refOf_any A n c l W (IR.on hl hb) (by omega)
    obtain ⟨x, b, hxb⟩ := ofV_form (ofI l)
    rw [hxb] at HP HR
    clear hxb hl
    cases b
    all_goals
      go_enter Tryd.func4, Tryd.ntmps4
      go_wp2_with fail
      refine HP.out.mono ?_
      rintro e w1 ⟨rfl, hb1⟩
      have HB1 := Lib.hid hb1
      clear hb1
      go_wp2_with fail
      refine (HR.out _ HB1.out).mono ?_
      rintro e w2 ⟨rfl, hb2⟩
      have HB2 : Hid (Below w.heap.size w w2) := HB1.out.trans (hb2.mono HB1.out.size)
      clear hb2 HB1
      go_wp2_with fail
      refine (awake_any _ (HT.out.on HB2.out)).mono ?_
      rintro e w4 ⟨rfl, hb4⟩
      go_wp2
      go_ret
      exact ⟨rfl, HB2.out.trans (hb4.mono HB2.out.size)⟩
  · have hsz : decide ((1000 : Int) < (n : Int)) = true := decide_eq_true (by omega)
    clear hl
    go_enter Tryd.func4, Tryd.ntmps4
    go_wp2_with fail
    refine (awake_any _ HT.out).mono ?_
    rintro e w4 ⟨rfl, hb4⟩
    go_wp2
    go_ret
    exact ⟨rfl, hb4⟩

set_option maxHeartbeats 4000000 in
set_option maxRecDepth 100000 in
theorem class_law (p : Int) (w : World) (hT : Tabs w) :
    Calls Tryd.prog 5 #[.int .i64 p] w fun e w' => e = .returned (.bool true) ∧ Below w.heap.size w w' := by
  have HT := Lib.hid hT
  clear hT
  have H1 := Lib.hid fun W => class_any p W
  have H2 := Lib.hid fun W => refClass_any p W
  obtain ⟨x, hx⟩ : ∃ x, Ru.classI p = x := ⟨_, rfl⟩
  rw [hx] at H1 H2
  clear hx
  go_enter Tryd.func5, Tryd.ntmps5
  go_wp2_with fail
  refine (H1.out _).mono ?_
  rintro e w1 ⟨rfl, rfl⟩
  go_wp2_with fail
  refine (H2.out _).mono ?_
  rintro e w1 ⟨rfl, rfl⟩
  go_wp2_with fail
  refine (awake_any _ HT.out).mono ?_
  rintro e w4 ⟨rfl, hb4⟩
  go_wp2
  go_ret
  exact ⟨rfl, hb4⟩

set_option maxHeartbeats 4000000 in
set_option maxRecDepth 100000 in
theorem clusters_law (s : ByteArray) (w : World) (hT : Tabs w) :
    Calls Tryd.prog 6 #[.string s] w fun e w' => e = .returned (.bool true) ∧ Below w.heap.size w w' := by
  have HT := Lib.hid hT
  clear hT
  by_cases hs : s.size ≤ 2000
  · have HF := Lib.hid fun W => few_yes hs (show (⟨#[]⟩ : ByteArray).size ≤ 2000 by decide) W
    have HP := Lib.hid (clusters_any s w (by omega) HT.out)
    have HR := Lib.hid fun W => refClusters_any s W (by omega)
    obtain ⟨l, hl⟩ : ∃ l, clusB s.data.toList = l := ⟨_, rfl⟩
    rw [hl] at HP HR
    clear hl
    go_enter Tryd.func6, Tryd.ntmps6
    go_wp2_with fail
    refine (HF.out _).mono ?_
    rintro e w1 ⟨rfl, rfl⟩
    go_wp2_with fail
    refine HP.out.mono ?_
    rintro e w1 ⟨v1, rfl, hown, hb1⟩
    obtain ⟨A1, c1, rfl, hc1, hc2, hr⟩ := own_form hown
    have R1 : Hid (SR w1 w1.heap.size A1 l.length l) := hr
    have HB1 := Lib.hid hb1
    clear hr hb1 hown
    go_wp2_with fail
    refine (HR.out _).mono ?_
    rintro e w2 ⟨v2, rfl, hown, hb2⟩
    obtain ⟨A2, c2, rfl, hd1, hd2, hr2⟩ := own_form hown
    have HS := Lib.hid (equal_strs A1 A2 l.length l.length c1 c2 l l w2 (SR.on R1.out hb2) hr2 (by omega) (by omega))
    have HB2 : Hid (Below w.heap.size w w2) := HB1.out.trans (hb2.mono HB1.out.size)
    rw [decide_eq_true rfl] at HS
    clear hr2 hb2 HB1 hown
    go_wp2_with fail
    refine HS.out.mono ?_
    rintro e w3 ⟨rfl, k, rfl⟩
    have HB3 : Hid (Below w.heap.size w (w2.drewN k)) := below_drewN HB2.out _
    clear HB2
    go_wp2_with fail
    refine (awake_any _ (HT.out.on HB3.out)).mono ?_
    rintro e w4 ⟨rfl, hb4⟩
    go_wp2
    go_ret
    exact ⟨rfl, HB3.out.trans (hb4.mono HB3.out.size)⟩
  · have HF := Lib.hid fun W => few_no (s := s) (t := ⟨#[]⟩) (by omega) W
    go_enter Tryd.func6, Tryd.ntmps6
    go_wp2_with fail
    refine (HF.out _).mono ?_
    rintro e w1 ⟨rfl, rfl⟩
    go_wp2_with fail
    refine (awake_any _ HT.out).mono ?_
    rintro e w4 ⟨rfl, hb4⟩
    go_wp2
    go_ret
    exact ⟨rfl, hb4⟩

theorem encS_perm {l m : List Nat} (h : l.Perm m) : (Ru.encS l).length = (Ru.encS m).length := (h.flatMap_right _).length_eq
theorem order_len (s : List UInt8) : (order s).length = s.length := by
  unfold order
  cases h : points s with
  | none => rfl
  | some d => rw [encS_perm (ords_perm d), encS_points h]
theorem sc_ords {d : List Nat} (h : Sc d) : Sc (ords d) := fun p hp => h p ((ords_perm d).mem_iff.1 hp)
theorem order_idem (s : List UInt8) : order (order s) = order s := by
  cases h : points s with
  | none => rw [order_none h, order_none h]
  | some d => rw [order_some h, order_some (points_encS (sc_ords (points_sc h))), ords_idem]

set_option maxHeartbeats 4000000 in
set_option maxRecDepth 100000 in
theorem orders_law (s t : ByteArray) (w : World) (hT : Tabs w) :
    Calls Tryd.prog 7 #[.string s, .string t] w fun e w' => e = .returned (.bool true) ∧ Below w.heap.size w w' := by
  have HT := Lib.hid hT
  clear hT
  by_cases hs : s.size ≤ 2000 ∧ t.size ≤ 2000
  · obtain ⟨hs, ht⟩ := hs
    have HF := Lib.hid fun W => few_yes hs ht W
    have hol : (strL (order s.data.toList)).size = s.size := by rw [strL_size, order_len, ← Lib.size_eq]
    have H1 := Lib.hid (order_any s w (by omega) HT.out)
    have H2 := Lib.hid fun W => refOrder_any s W (by omega)
    have H3 := Lib.hid fun W (hb : Below w.heap.size w W) => sameO_any s t W (by omega) (by omega) (HT.out.on hb)
    have H4 := Lib.hid fun W => refSameO_any s t W (by omega) (by omega)
    have H5 := Lib.hid fun W (hb : Below w.heap.size w W) => mono_eq (sameO_any s (strL (order s.data.toList)) W (by omega) (by omega) (HT.out.on hb)) (v' := .bool true) (by rw [strL_data, order_idem, decide_eq_true rfl])
    unfold ordPost at H1 H2
    obtain ⟨x, hx⟩ : ∃ x, strL (order s.data.toList) = x := ⟨_, rfl⟩
    rw [hx] at H1 H2 H5
    obtain ⟨b, hb⟩ : ∃ b, decide (order s.data.toList = order t.data.toList) = b := ⟨_, rfl⟩
    rw [hb] at H3 H4
    clear hx hb hol
    cases b
    all_goals
      go_enter Tryd.func7, Tryd.ntmps7
      go_wp2_with fail
      refine (HF.out _).mono ?_
      rintro e w1 ⟨rfl, rfl⟩
      go_wp2_with fail
      refine H1.out.mono ?_
      rintro e w1 ⟨rfl, hb1⟩
      have HB1 := Lib.hid hb1
      clear hb1
      go_wp2_with fail
      refine (H2.out _).mono ?_
      rintro e w2 ⟨rfl, hb2⟩
      have HB2 : Hid (Below w.heap.size w w2) := HB1.out.trans (hb2.mono HB1.out.size)
      clear hb2 HB1
      go_wp2_with fail
      refine (H3.out _ HB2.out).mono ?_
      rintro e w3 ⟨rfl, hb2⟩
      have HB3 : Hid (Below w.heap.size w w3) := HB2.out.trans (hb2.mono HB2.out.size)
      clear hb2 HB2
      go_wp2_with fail
      refine (H4.out _).mono ?_
      rintro e w4 ⟨rfl, hb2⟩
      have HB4 : Hid (Below w.heap.size w w4) := HB3.out.trans (hb2.mono HB3.out.size)
      clear hb2 HB3
      go_wp2_with fail
      refine (H2.out _).mono ?_
      rintro e w5 ⟨rfl, hb2⟩
      have HB5 : Hid (Below w.heap.size w w5) := HB4.out.trans (hb2.mono HB4.out.size)
      clear hb2 HB4
      go_wp2_with fail
      refine (H5.out _ HB5.out).mono ?_
      rintro e w6 ⟨rfl, hb2⟩
      have HB6 : Hid (Below w.heap.size w w6) := HB5.out.trans (hb2.mono HB5.out.size)
      clear hb2 HB5
      go_wp2_with fail
      refine (awake_any _ (HT.out.on HB6.out)).mono ?_
      rintro e w7 ⟨rfl, hb4⟩
      go_wp2
      go_ret
      exact ⟨rfl, HB6.out.trans (hb4.mono HB6.out.size)⟩
  · have HF := Lib.hid fun W => few_no (s := s) (t := t) hs W
    go_enter Tryd.func7, Tryd.ntmps7
    go_wp2_with fail
    refine (HF.out _).mono ?_
    rintro e w1 ⟨rfl, rfl⟩
    go_wp2_with fail
    refine (awake_any _ HT.out).mono ?_
    rintro e w4 ⟨rfl, hb4⟩
    go_wp2
    go_ret
    exact ⟨rfl, hb4⟩
end Go.Proofs.YtplchlkdijjamaaDoor
