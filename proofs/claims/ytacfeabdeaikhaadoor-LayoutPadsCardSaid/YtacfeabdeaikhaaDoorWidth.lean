/-
  Width and Pad, and those of the reference.
-/
import Derived.Test.YtacfeabdeaikhaaDoorNews
import Derived.Test.YtacfeabdeaikhaaDoorPlainLay
namespace Go.Proofs.YtacfeabdeaikhaaDoor
open Go.RowKit Go.Shelf Ru Lay
set_option linter.unusedVariables false
set_option linter.unusedSimpArgs false

def intsO : Option (List Nat) → List Int
  | none => []
  | some d => d.map fun (p : Nat) => (p : Int)
theorem PointsPost.val {w w' : World} {o : Option (List Nat)} {e : Ending} (h : PointsPost w o e w') :
    ∃ A n c, e = .returned (.tuple #[.slice A n c, .bool o.isSome]) ∧ IR w' w'.heap.size A n (intsO o) ∧ n ≤ 9223372036854775807 ∧ Below w.heap.size w w' := by
  obtain ⟨h1, h2, h3⟩ := h
  cases o with
  | none => exact ⟨none, 0, 0, h1 rfl, Reads.none_, by omega, h3⟩
  | some d =>
    obtain ⟨v, rfl, hown⟩ := h2 d rfl
    obtain ⟨A, c, rfl, h5, h6, hr⟩ := own_form hown
    exact ⟨A, _, c, rfl, NR.ints hr, by omega, h3⟩
theorem widB_none {s : ByteArray} (h : points s.data.toList = none) : widB s = s.size := by
  unfold widB wid
  rw [h, Lib.size_eq]
theorem widB_some {s : ByteArray} {d : List Nat} (h : points s.data.toList = some d) : widB s = (clusB s.data.toList).length := wid_clusB _ (by rw [h]; rfl)
def padB (s : ByteArray) (n : Int) : ByteArray := strL (pad s.data.toList n)
theorem padB_size (s : ByteArray) (n : Int) : (padB s n).size ≤ s.size + 4000 := by
  unfold padB
  rw [strL_size, Lib.size_eq]
  exact pad_len _ _
theorem padB_id {s : ByteArray} {n : Int} (h : 4000 < n ∨ n ≤ widB s) : padB s n = s := by
  unfold padB
  rw [pad_id h]
  exact (strL_of rfl).symm

set_option maxHeartbeats 1000000 in
theorem width_any (s : ByteArray) (w : World) (hs : s.size ≤ 1099511627) (hT : Tabs w) :
    Calls Tryd.prog 13 #[.string s] w fun e w' => e = .returned (.int .i64 (widB s : Int)) ∧ Below w.heap.size w w' := by
  have HT := Lib.hid hT
  have HP := Lib.hid (points_any s w (by omega) HT.out)
  have HC := Lib.hid fun W (hb : Below w.heap.size w W) => clusters_any s W (by omega) (HT.out.on hb)
  clear hT
  obtain ⟨o, ho⟩ : ∃ o, points s.data.toList = o := ⟨_, rfl⟩
  rw [ho] at HP
  cases o with
  | none =>
    have HW : Hid ((s.size : Int) = (widB s : Int)) := by show _ = _; rw [widB_none ho]
    clear ho
    go_enter Tryd.func13, Tryd.ntmps13
    go_wp2_with fail
    refine HP.out.mono ?_
    intro e w1 hpp
    obtain ⟨A1, n1, c1, rfl, _, _, hb⟩ := hpp.val
    have HB1 : Hid (Below w.heap.size w w1) := hb
    clear hpp hb
    go_wp2
    go_ret
    exact ⟨ret_i64 HW.out, HB1.out⟩
  | some d =>
    have HW : Hid (((clusB s.data.toList).length : Int) = (widB s : Int)) := by show _ = _; rw [widB_some ho]
    clear ho
    go_enter Tryd.func13, Tryd.ntmps13
    go_wp2_with fail
    refine HP.out.mono ?_
    intro e w1 hpp
    obtain ⟨A1, n1, c1, rfl, _, _, hb⟩ := hpp.val
    have HB1 : Hid (Below w.heap.size w w1) := hb
    clear hpp hb
    go_wp2_with fail
    refine (HC.out _ HB1.out).mono ?_
    rintro e w2 ⟨v, rfl, hown, hb⟩
    obtain ⟨A2, c2, rfl, _, _, _⟩ := own_form hown
    have HB2 : Hid (Below w.heap.size w w2) := HB1.out.trans (hb.mono HB1.out.size)
    clear hown hb
    go_wp2
    go_ret
    exact ⟨ret_i64 HW.out, HB2.out⟩
set_option maxHeartbeats 1000000 in
theorem refWidth_any (s : ByteArray) (w : World) (hs : s.size ≤ 1099511627) :
    Calls Tryd.prog 14 #[.string s] w fun e w' => e = .returned (.int .i64 (widB s : Int)) ∧ Below w.heap.size w w' := by
  have HP := Lib.hid (points02_any s w (by omega))
  have HC := Lib.hid fun W => refClusters_any s W (by omega)
  obtain ⟨o, ho⟩ : ∃ o, points s.data.toList = o := ⟨_, rfl⟩
  rw [ho] at HP
  cases o with
  | none =>
    have HW : Hid ((s.size : Int) = (widB s : Int)) := by show _ = _; rw [widB_none ho]
    clear ho
    go_enter Tryd.func14, Tryd.ntmps14
    go_wp2_with fail
    refine HP.out.mono ?_
    intro e w1 hpp
    obtain ⟨A1, n1, c1, rfl, _, _, hb⟩ := hpp.val
    have HB1 : Hid (Below w.heap.size w w1) := hb
    clear hpp hb
    go_wp2
    go_ret
    exact ⟨ret_i64 HW.out, HB1.out⟩
  | some d =>
    have HW : Hid (((clusB s.data.toList).length : Int) = (widB s : Int)) := by show _ = _; rw [widB_some ho]
    clear ho
    go_enter Tryd.func14, Tryd.ntmps14
    go_wp2_with fail
    refine HP.out.mono ?_
    intro e w1 hpp
    obtain ⟨A1, n1, c1, rfl, _, _, hb⟩ := hpp.val
    have HB1 : Hid (Below w.heap.size w w1) := hb
    clear hpp hb
    go_wp2_with fail
    refine (HC.out _).mono ?_
    rintro e w2 ⟨v, rfl, hown, hb⟩
    obtain ⟨A2, c2, rfl, _, _, _⟩ := own_form hown
    have HB2 : Hid (Below w.heap.size w w2) := HB1.out.trans (hb.mono HB1.out.size)
    clear hown hb
    go_wp2
    go_ret
    exact ⟨ret_i64 HW.out, HB2.out⟩
theorem repeat_sp (n : Nat) : Lib.repeatL [32] n = sp n := by
  induction n with
  | zero => rfl
  | succ n ih => show [32] ++ Lib.repeatL [32] n = _; rw [ih]; rfl
set_option maxHeartbeats 1000000 in
theorem pad_any (s : ByteArray) (n : Int) (w : World) (hs : s.size ≤ 1099511627) (hT : Tabs w) :
    Calls Tryd.prog 15 #[.string s, .int .i64 n] w fun e w' => e = .returned (.string (padB s n)) ∧ Below w.heap.size w w' := by
  have HW := Lib.hid (width_any s w hs hT)
  have hwl := widB_le s
  obtain ⟨k, hk⟩ : ∃ k, widB s = k := ⟨_, rfl⟩
  have HK := Lib.hid hk
  rw [hk] at HW hwl
  clear hk
  by_cases h1 : (k : Int) < n
  · have hd1 : decide ((k : Int) < n) = true := decide_eq_true h1
    by_cases h2 : n ≤ 4000
    · have hd2 : decide (n ≤ 4000) = true := decide_eq_true h2
      obtain ⟨m, hm⟩ : ∃ m : Nat, n = (k : Int) + (m : Int) := ⟨(n - k).toNat, by omega⟩
      have hnk : n - (k : Int) = (m : Int) := by omega
      have HM := Lib.hid hm
      have HR := Lib.hid fun W => Tryd.strings_Repeat ⟨#[32]⟩ m W (by omega) (by show 1 * m ≤ _; omega)
      have hsz : (⟨(Lib.repeatL (⟨#[32]⟩ : ByteArray).data.toList m).toArray⟩ : ByteArray).size ≤ 4000 := by
        rw [Lib.size_eq]
        show (Lib.repeatL [32] m).length ≤ _
        rw [repeat_sp, sp_len]
        omega
      have HRES : Hid (s ++ (⟨(Lib.repeatL (⟨#[32]⟩ : ByteArray).data.toList m).toArray⟩ : ByteArray) = padB s n) := by
        show _ = _
        refine ba_ext ?_
        rw [app_data]
        unfold padB
        rw [strL_data]
        unfold pad
        rw [show wid s.data.toList = k from HK.out, if_pos ⟨h1, h2⟩]
        show _ ++ Lib.repeatL [32] m = _
        rw [repeat_sp, hnk]
        rfl
      obtain ⟨x, hx⟩ : ∃ x, (⟨(Lib.repeatL (⟨#[32]⟩ : ByteArray).data.toList m).toArray⟩ : ByteArray) = x := ⟨_, rfl⟩
      rw [hx] at HR hsz HRES
      clear hx hm
      have hcat : s.size + x.size ≤ 9223372036854775807 := by omega
      go_enter Tryd.func15, Tryd.ntmps15
      go_wp2_with fail
      refine HW.out.mono ?_
      rintro e w1 ⟨rfl, hb⟩
      have HB1 : Hid (Below w.heap.size w w1) := hb
      clear hb
      go_wp2_with fail
      refine (HR.out _).mono ?_
      rintro e w2 ⟨rfl, hb⟩
      have HB2 : Hid (Below w.heap.size w w2) := HB1.out.trans (hb.mono HB1.out.size)
      clear hb
      go_wp2
      go_ret
      exact ⟨ret_str HRES.out, HB2.out⟩
    · have hd2 : decide (n ≤ 4000) = false := decide_eq_false h2
      have HRES : Hid (s = padB s n) := (padB_id (.inl (by omega))).symm
      go_enter Tryd.func15, Tryd.ntmps15
      go_wp2_with fail
      refine HW.out.mono ?_
      rintro e w1 ⟨rfl, hb⟩
      have HB1 : Hid (Below w.heap.size w w1) := hb
      clear hb
      go_wp2
      go_ret
      exact ⟨ret_str HRES.out, HB1.out⟩
  · have hd1 : decide ((k : Int) < n) = false := decide_eq_false h1
    have HRES : Hid (s = padB s n) := (padB_id (.inr (by rw [HK.out]; omega))).symm
    go_enter Tryd.func15, Tryd.ntmps15
    go_wp2_with fail
    refine HW.out.mono ?_
    rintro e w1 ⟨rfl, hb⟩
    have HB1 : Hid (Below w.heap.size w w1) := hb
    clear hb
    go_wp2
    go_ret
    exact ⟨ret_str HRES.out, HB1.out⟩
theorem pad_go {s : ByteArray} {n : Int} {k j : Nat} (hk : widB s = k) (h1 : (k : Int) + j = n) (h2 : n ≤ 4000) : s ++ strL (sp j) = padB s n := by
  refine ba_ext ?_
  rw [app_data, strL_data]
  unfold padB
  rw [strL_data]
  unfold pad
  rw [show wid s.data.toList = k from hk]
  by_cases h : (k : Int) < n
  · rw [if_pos ⟨h, h2⟩, show n - (k : Int) = (j : Int) by omega]
    rfl
  · rw [if_neg (fun hh => h hh.1), show j = 0 by omega, sp_zero, List.append_nil]
theorem sp_next (s : ByteArray) (j : Nat) : s ++ strL (sp j) ++ ⟨#[32]⟩ = s ++ strL (sp (j + 1)) := by
  refine ba_ext ?_
  rw [app_data, app_data, app_data, strL_data, strL_data, sp_snoc, List.append_assoc]
set_option maxHeartbeats 1000000 in
theorem refPad_any (s : ByteArray) (n : Int) (w : World) (hs : s.size ≤ 1099511627) :
    Calls Tryd.prog 16 #[.string s, .int .i64 n] w fun e w' => e = .returned (.string (padB s n)) ∧ Below w.heap.size w w' := by
  have HW := Lib.hid (refWidth_any s w hs)
  have hwl := widB_le s
  obtain ⟨k, hk⟩ : ∃ k, widB s = k := ⟨_, rfl⟩
  have HK := Lib.hid hk
  rw [hk] at HW hwl
  clear hk
  by_cases h2 : n ≤ 4000
  · have hd2 : decide (4000 < n) = false := decide_eq_false (by omega)
    have hd3 : ¬ (4000 < n) := by omega
    go_enter Tryd.func16, Tryd.ntmps16
    go_wp2_with fail
    refine HW.out.mono ?_
    rintro e w1 ⟨rfl, hb⟩
    have HB1 : Hid (Below w.heap.size w w1) := hb
    clear hb
    go_wp2_with fail
    go_loop [0, 5] (fun vs vi => ∃ j : Nat, vi = .int .i64 ((k : Int) + (j : Int)) ∧ vs = .string (s ++ strL (sp j)) ∧ (j = 0 ∨ (k : Int) + j ≤ n)) (fun _ vi => (4001 - intOf vi).toNat)
    case atStart => exact ⟨0, by simp, by rw [sp_zero]; exact congrArg Value.string (ba_ext (by rw [app_data, strL_data, List.append_nil])), .inl rfl⟩
    case round =>
      obtain ⟨j, rfl, rfl, hj⟩ := hrel
      by_cases hlt : (k : Int) + (j : Int) < n
      · have HN := Lib.hid (sp_next s j)
        have hsz : (s ++ strL (sp j)).size ≤ s.size + 4000 := by
          rw [Lib.size_eq, app_data, List.length_append, strL_data, sp_len, ← Lib.size_eq]
          omega
        obtain ⟨x, hx⟩ : ∃ x, s ++ strL (sp j) = x := ⟨_, rfl⟩
        rw [hx] at HN hsz ⊢
        clear hx
        have hcat : x.size + (⟨#[32]⟩ : ByteArray).size ≤ 9223372036854775807 := by
          have : (⟨#[32]⟩ : ByteArray).size = 1 := rfl
          omega
        go_wp2
        go_round
        case rel => exact ⟨j + 1, by push_cast; first | rfl | (congr 1; omega), by rw [HN.out], .inr (by push_cast; omega)⟩
        case measure => simp [intOf]; omega
      · have HRES : Hid (s ++ strL (sp j) = padB s n) := by
          show _ = _
          by_cases he : (k : Int) + j = n
          · exact pad_go HK.out he h2
          · rw [padB_id (.inr (by rw [HK.out]; omega)), show j = 0 by omega, sp_zero]
            exact ba_ext (by rw [app_data, strL_data, List.append_nil])
        go_wp2
        go_ret
        exact ⟨ret_str HRES.out, HB1.out⟩
  · have hd2 : decide (4000 < n) = true := decide_eq_true (by omega)
    have hd3 : 4000 < n := by omega
    have HRES : Hid (s = padB s n) := (padB_id (.inl (by omega))).symm
    go_enter Tryd.func16, Tryd.ntmps16
    go_wp2
    go_ret
    exact ⟨ret_str HRES.out, Below.refl _ _⟩
end Go.Proofs.YtacfeabdeaikhaaDoor
