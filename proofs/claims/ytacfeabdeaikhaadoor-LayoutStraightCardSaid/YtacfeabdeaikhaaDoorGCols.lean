import Derived.Test.YtacfeabdeaikhaaDoorNews
import Derived.Test.YtacfeabdeaikhaaDoorGPlain
import Derived.Lib.MinMax
import Derived.Deep.RegionWith
import Derived.Deep.DrawnRows
import Derived.Deep.LoopGhost
/-
  Width and Pad, and those of the reference.
-/
namespace Go.Proofs.YtacfeabdeaikhaaDoor
open Go.RowKit Go.Shelf Ru Lay
set_option linter.unusedVariables false
set_option linter.unusedSimpArgs false

def intsO : Option (List Nat) → List Int
  | none => []
  | some d => d.map fun (p : Nat) => (p : Int)
theorem PointsPost.val {w w' : World} {o : Option (List Nat)} {e : Ending} (h : PointsPost w o e w') :
    ∃ A n c, e = .returned (.tuple #[.slice A n c, .bool o.isSome]) ∧ IR w' w'.heap.size A n (intsO o) ∧ n ≤ 9223372036854775807 ∧ Below w.heap.size w w' := by
  obtain ⟨h1, h2, h3⟩ := h
  cases o with
  | none => exact ⟨none, 0, 0, h1 rfl, Reads.none_, by omega, h3⟩
  | some d =>
    obtain ⟨v, rfl, hown⟩ := h2 d rfl
    obtain ⟨A, c, rfl, h5, h6, hr⟩ := own_form hown
    exact ⟨A, _, c, rfl, NR.ints hr, by omega, h3⟩
theorem widB_none {s : ByteArray} (h : points s.data.toList = none) : widB s = s.size := by
  unfold widB wid
  rw [h, Lib.size_eq]
theorem widB_some {s : ByteArray} {d : List Nat} (h : points s.data.toList = some d) : widB s = (clusB s.data.toList).length := wid_clusB _ (by rw [h]; rfl)
def padB (s : ByteArray) (n : Int) : ByteArray := strL (pad s.data.toList n)
theorem padB_size (s : ByteArray) (n : Int) : (padB s n).size ≤ s.size + 4000 := by
  unfold padB
  rw [strL_size, Lib.size_eq]
  exact pad_len _ _
theorem padB_id {s : ByteArray} {n : Int} (h : 4000 < n ∨ n ≤ widB s) : padB s n = s := by
  unfold padB
  rw [pad_id h]
  exact (strL_of rfl).symm

set_option maxHeartbeats 1000000 in
theorem width_any (s : ByteArray) (w : World) (hs : s.size ≤ 1099511627) (hT : Tabs w) :
    Calls Tryd.prog 13 #[.string s] w fun e w' => e = .returned (.int .i64 (widB s : Int)) ∧ Below w.heap.size w w' := by
  have HT := Lib.hid hT
  have HP := Lib.hid (points_any s w (by omega) HT.out)
  have HC := Lib.hid fun W (hb : Below w.heap.size w W) => clusters_any s W (by omega) (HT.out.on hb)
  clear hT
  obtain ⟨o, ho⟩ : ∃ o, points s.data.toList = o := ⟨_, rfl⟩
  rw [ho] at HP
  cases o with
  | none =>
    have HW : Hid ((s.size : Int) = (widB s : Int)) := by show _ = _; rw [widB_none ho]
    clear ho
    go_enter Tryd.func13, Tryd.ntmps13
    go_wp2_with fail
    refine HP.out.mono ?_
    intro e w1 hpp
    obtain ⟨A1, n1, c1, rfl, _, _, hb⟩ := hpp.val
    have HB1 : Hid (Below w.heap.size w w1) := hb
    clear hpp hb
    go_wp2
    go_ret
    exact ⟨ret_i64 HW.out, HB1.out⟩
  | some d =>
    have HW : Hid (((clusB s.data.toList).length : Int) = (widB s : Int)) := by show _ = _; rw [widB_some ho]
    clear ho
    go_enter Tryd.func13, Tryd.ntmps13
    go_wp2_with fail
    refine HP.out.mono ?_
    intro e w1 hpp
    obtain ⟨A1, n1, c1, rfl, _, _, hb⟩ := hpp.val
    have HB1 : Hid (Below w.heap.size w w1) := hb
    clear hpp hb
    go_wp2_with fail
    refine (HC.out _ HB1.out).mono ?_
    rintro e w2 ⟨v, rfl, hown, hb⟩
    obtain ⟨A2, c2, rfl, _, _, _⟩ := own_form hown
    have HB2 : Hid (Below w.heap.size w w2) := HB1.out.trans (hb.mono HB1.out.size)
    clear hown hb
    go_wp2
    go_ret
    exact ⟨ret_i64 HW.out, HB2.out⟩
set_option maxHeartbeats 1000000 in
theorem refWidth_any (s : ByteArray) (w : World) (hs : s.size ≤ 1099511627) :
    Calls Tryd.prog 14 #[.string s] w fun e w' => e = .returned (.int .i64 (widB s : Int)) ∧ Below w.heap.size w w' := by
  have HP := Lib.hid (points02_any s w (by omega))
  have HC := Lib.hid fun W => refClusters_any s W (by omega)
  obtain ⟨o, ho⟩ : ∃ o, points s.data.toList = o := ⟨_, rfl⟩
  rw [ho] at HP
  cases o with
  | none =>
    have HW : Hid ((s.size : Int) = (widB s : Int)) := by show _ = _; rw [widB_none ho]
    clear ho
    go_enter Tryd.func14, Tryd.ntmps14
    go_wp2_with fail
    refine HP.out.mono ?_
    intro e w1 hpp
    obtain ⟨A1, n1, c1, rfl, _, _, hb⟩ := hpp.val
    have HB1 : Hid (Below w.heap.size w w1) := hb
    clear hpp hb
    go_wp2
    go_ret
    exact ⟨ret_i64 HW.out, HB1.out⟩
  | some d =>
    have HW : Hid (((clusB s.data.toList).length : Int) = (widB s : Int)) := by show _ = _; rw [widB_some ho]
    clear ho
    go_enter Tryd.func14, Tryd.ntmps14
    go_wp2_with fail
    refine HP.out.mono ?_
    intro e w1 hpp
    obtain ⟨A1, n1, c1, rfl, _, _, hb⟩ := hpp.val
    have HB1 : Hid (Below w.heap.size w w1) := hb
    clear hpp hb
    go_wp2_with fail
    refine (HC.out _).mono ?_
    rintro e w2 ⟨v, rfl, hown, hb⟩
    obtain ⟨A2, c2, rfl, _, _, _⟩ := own_form hown
    have HB2 : Hid (Below w.heap.size w w2) := HB1.out.trans (hb.mono HB1.out.size)
    clear hown hb
    go_wp2
    go_ret
    exact ⟨ret_i64 HW.out, HB2.out⟩
theorem repeat_sp (n : Nat) : Lib.repeatL [32] n = sp n := by
  induction n with
  | zero => rfl
  | succ n ih => show [32] ++ Lib.repeatL [32] n = _; rw [ih]; rfl
set_option maxHeartbeats 1000000 in
theorem pad_any (s : ByteArray) (n : Int) (w : World) (hs : s.size ≤ 1099511627) (hT : Tabs w) :
    Calls Tryd.prog 15 #[.string s, .int .i64 n] w fun e w' => e = .returned (.string (padB s n)) ∧ Below w.heap.size w w' := by
  have HW := Lib.hid (width_any s w hs hT)
  have hwl := widB_le s
  obtain ⟨k, hk⟩ : ∃ k, widB s = k := ⟨_, rfl⟩
  have HK := Lib.hid hk
  rw [hk] at HW hwl
  clear hk
  by_cases h1 : (k : Int) < n
  · have hd1 : decide ((k : Int) < n) = true := decide_eq_true h1
    by_cases h2 : n ≤ 4000
    · have hd2 : decide (n ≤ 4000) = true := decide_eq_true h2
      obtain ⟨m, hm⟩ : ∃ m : Nat, n = (k : Int) + (m : Int) := ⟨(n - k).toNat, by omega⟩
      have hnk : n - (k : Int) = (m : Int) := by omega
      have HM := Lib.hid hm
      have HR := Lib.hid fun W => Tryd.strings_Repeat ⟨#[32]⟩ m W (by omega) (by show 1 * m ≤ _; omega)
      have hsz : (⟨(Lib.repeatL (⟨#[32]⟩ : ByteArray).data.toList m).toArray⟩ : ByteArray).size ≤ 4000 := by
        rw [Lib.size_eq]
        show (Lib.repeatL [32] m).length ≤ _
        rw [repeat_sp, sp_len]
        omega
      have HRES : Hid (s ++ (⟨(Lib.repeatL (⟨#[32]⟩ : ByteArray).data.toList m).toArray⟩ : ByteArray) = padB s n) := by
        show _ = _
        refine ba_ext ?_
        rw [app_data]
        unfold padB
        rw [strL_data]
        unfold pad
        rw [show wid s.data.toList = k from HK.out, if_pos ⟨h1, h2⟩]
        show _ ++ Lib.repeatL [32] m = _
        rw [repeat_sp, hnk]
        rfl
      obtain ⟨x, hx⟩ : ∃ x, (⟨(Lib.repeatL (⟨#[32]⟩ : ByteArray).data.toList m).toArray⟩ : ByteArray) = x := ⟨_, rfl⟩
      rw [hx] at HR hsz HRES
      clear hx hm
      have hcat : s.size + x.size ≤ 9223372036854775807 := by omega
      go_enter Tryd.func15, Tryd.ntmps15
      go_wp2_with fail
      refine HW.out.mono ?_
      rintro e w1 ⟨rfl, hb⟩
      have HB1 : Hid (Below w.heap.size w w1) := hb
      clear hb
      go_wp2_with fail
      refine (HR.out _).mono ?_
      rintro e w2 ⟨rfl, hb⟩
      have HB2 : Hid (Below w.heap.size w w2) := HB1.out.trans (hb.mono HB1.out.size)
      clear hb
      go_wp2
      go_ret
      exact ⟨ret_str HRES.out, HB2.out⟩
    · have hd2 : decide (n ≤ 4000) = false := decide_eq_false h2
      have HRES : Hid (s = padB s n) := (padB_id (.inl (by omega))).symm
      go_enter Tryd.func15, Tryd.ntmps15
      go_wp2_with fail
      refine HW.out.mono ?_
      rintro e w1 ⟨rfl, hb⟩
      have HB1 : Hid (Below w.heap.size w w1) := hb
      clear hb
      go_wp2
      go_ret
      exact ⟨ret_str HRES.out, HB1.out⟩
  · have hd1 : decide ((k : Int) < n) = false := decide_eq_false h1
    have HRES : Hid (s = padB s n) := (padB_id (.inr (by rw [HK.out]; omega))).symm
    go_enter Tryd.func15, Tryd.ntmps15
    go_wp2_with fail
    refine HW.out.mono ?_
    rintro e w1 ⟨rfl, hb⟩
    have HB1 : Hid (Below w.heap.size w w1) := hb
    clear hb
    go_wp2
    go_ret
    exact ⟨ret_str HRES.out, HB1.out⟩
theorem pad_go {s : ByteArray} {n : Int} {k j : Nat} (hk : widB s = k) (h1 : (k : Int) + j = n) (h2 : n ≤ 4000) : s ++ strL (sp j) = padB s n := by
  refine ba_ext ?_
  rw [app_data, strL_data]
  unfold padB
  rw [strL_data]
  unfold pad
  rw [show wid s.data.toList = k from hk]
  by_cases h : (k : Int) < n
  · rw [if_pos ⟨h, h2⟩, show n - (k : Int) = (j : Int) by omega]
    rfl
  · rw [if_neg (fun hh => h hh.1), show j = 0 by omega, sp_zero, List.append_nil]
theorem sp_next (s : ByteArray) (j : Nat) : s ++ strL (sp j) ++ ⟨#[32]⟩ = s ++ strL (sp (j + 1)) := by
  refine ba_ext ?_
  rw [app_data, app_data, app_data, strL_data, strL_data, sp_snoc, List.append_assoc]
set_option maxHeartbeats 1000000 in
theorem refPad_any (s : ByteArray) (n : Int) (w : World) (hs : s.size ≤ 1099511627) :
    Calls Tryd.prog 16 #[.string s, .int .i64 n] w fun e w' => e = .returned (.string (padB s n)) ∧ Below w.heap.size w w' := by
  have HW := Lib.hid (refWidth_any s w hs)
  have hwl := widB_le s
  obtain ⟨k, hk⟩ : ∃ k, widB s = k := ⟨_, rfl⟩
  have HK := Lib.hid hk
  rw [hk] at HW hwl
  clear hk
  by_cases h2 : n ≤ 4000
  · have hd2 : decide (4000 < n) = false := decide_eq_false (by omega)
    have hd3 : ¬ (4000 < n) := by omega
    go_enter Tryd.func16, Tryd.ntmps16
    go_wp2_with fail
    refine HW.out.mono ?_
    rintro e w1 ⟨rfl, hb⟩
    have HB1 : Hid (Below w.heap.size w w1) := hb
    clear hb
    go_wp2_with fail
    go_loop [0, 5] (fun vs vi => ∃ j : Nat, vi = .int .i64 ((k : Int) + (j : Int)) ∧ vs = .string (s ++ strL (sp j)) ∧ (j = 0 ∨ (k : Int) + j ≤ n)) (fun _ vi => (4001 - intOf vi).toNat)
    case atStart => exact ⟨0, by simp, by rw [sp_zero]; exact congrArg Value.string (ba_ext (by rw [app_data, strL_data, List.append_nil])), .inl rfl⟩
    case round =>
      obtain ⟨j, rfl, rfl, hj⟩ := hrel
      by_cases hlt : (k : Int) + (j : Int) < n
      · have HN := Lib.hid (sp_next s j)
        have hsz : (s ++ strL (sp j)).size ≤ s.size + 4000 := by
          rw [Lib.size_eq, app_data, List.length_append, strL_data, sp_len, ← Lib.size_eq]
          omega
        obtain ⟨x, hx⟩ : ∃ x, s ++ strL (sp j) = x := ⟨_, rfl⟩
        rw [hx] at HN hsz ⊢
        clear hx
        have hcat : x.size + (⟨#[32]⟩ : ByteArray).size ≤ 9223372036854775807 := by
          have : (⟨#[32]⟩ : ByteArray).size = 1 := rfl
          omega
        go_wp2
        go_round
        case rel => exact ⟨j + 1, by push_cast; first | rfl | (congr 1; omega), by rw [HN.out], .inr (by push_cast; omega)⟩
        case measure => simp [intOf]; omega
      · have HRES : Hid (s ++ strL (sp j) = padB s n) := by
          show _ = _
          by_cases he : (k : Int) + j = n
          · exact pad_go HK.out he h2
          · rw [padB_id (.inr (by rw [HK.out]; omega)), show j = 0 by omega, sp_zero]
            exact ba_ext (by rw [app_data, strL_data, List.append_nil])
        go_wp2
        go_ret
        exact ⟨ret_str HRES.out, HB1.out⟩
  · have hd2 : decide (4000 < n) = true := decide_eq_true (by omega)
    have hd3 : 4000 < n := by omega
    have HRES : Hid (s = padB s n) := (padB_id (.inl (by omega))).symm
    go_enter Tryd.func16, Tryd.ntmps16
    go_wp2
    go_ret
    exact ⟨ret_str HRES.out, Below.refl _ _⟩
end Go.Proofs.YtacfeabdeaikhaaDoor

/-
  SLICES OF SLICES OF STRINGS, as this chapter's walks read them; rows of integers that the call owns.
-/
namespace Go.Proofs.YtacfeabdeaikhaaDoor
open Go.RowKit Ru Lay
set_option linter.unusedVariables false
set_option linter.unusedSimpArgs false

/-- A slice of slices of strings reads as L. -/
def RowsR (w : World) (B : Nat) (A : Option Addr) (n : Nat) (L : List (List ByteArray)) : Prop :=
  ∃ xs, Reads w B 1 A n xs ∧ L.length = n ∧ ∀ (i : Nat) (l : List ByteArray), L[i]? = some l → ∃ A' n' c', xs[i]? = some (Value.slice A' n' c') ∧ SR w B A' n' l ∧ n' ≤ c' ∧ c' ≤ 9223372036854775807
theorem RowsR.at_ {w : World} {B n k : Nat} {A : Option Addr} {L : List (List ByteArray)} (h : RowsR w B A n L) (hk : k < n) :
    ∃ ad l A' n' c', A = some ad ∧ ad.block < B ∧ L[k]? = some l ∧ w.cell? (ad.add k) = some (Value.slice A' n' c') ∧ SR w B A' n' l ∧ n' ≤ c' ∧ c' ≤ 9223372036854775807 := by
  obtain ⟨xs, hr, hl, hi⟩ := h
  obtain ⟨ad, u, e, hb, hx, hc⟩ := hr.at_ hk
  have hlt : k < L.length := by omega
  obtain ⟨A', n', c', hx', hs, h1, h2⟩ := hi k L[k] (List.getElem?_eq_getElem hlt)
  rw [hx] at hx'
  cases hx'
  exact ⟨ad, L[k], A', n', c', e, hb, List.getElem?_eq_getElem hlt, hc, hs, h1, h2⟩
theorem RowsR.len {w : World} {B n : Nat} {A : Option Addr} {L : List (List ByteArray)} (h : RowsR w B A n L) : L.length = n := by obtain ⟨xs, hr, hl, hi⟩ := h; exact hl
theorem RowsR.below {w w' : World} {B n : Nat} {A : Option Addr} {L : List (List ByteArray)} (h : RowsR w B A n L) (hb : Below B w w') : RowsR w' B A n L := by
  obtain ⟨xs, hr, hl, hi⟩ := h
  refine ⟨xs, hr.below hb, hl, fun i l hil => ?_⟩
  obtain ⟨A', n', c', hx', hs, h1, h2⟩ := hi i l hil
  exact ⟨A', n', c', hx', Reads.below hs hb, h1, h2⟩
theorem RowsR.more {w : World} {B B' n : Nat} {A : Option Addr} {L : List (List ByteArray)} (h : RowsR w B A n L) (hB : B ≤ B') : RowsR w B' A n L := by
  obtain ⟨xs, hr, hl, hi⟩ := h
  refine ⟨xs, hr.more hB, hl, fun i l hil => ?_⟩
  obtain ⟨A', n', c', hx', hs, h1, h2⟩ := hi i l hil
  exact ⟨A', n', c', hx', Reads.more hs hB, h1, h2⟩
theorem RowsR.on {w w' : World} {n : Nat} {A : Option Addr} {L : List (List ByteArray)} (h : RowsR w w.heap.size A n L) (hb : Below w.heap.size w w') : RowsR w' w'.heap.size A n L := (h.below hb).more hb.size
theorem RowsR.none_ (w : World) (B : Nat) : RowsR w B none 0 [] := ⟨[], Reads.none_, rfl, fun i l h => by simp at h⟩
/-- Sizes that no sum of a walk outgrows. -/
def SzR (r : List ByteArray) : Prop := r.length ≤ 100000 ∧ ∀ s ∈ r, s.size ≤ 100000
def SzL (L : List (List ByteArray)) : Prop := L.length ≤ 100000 ∧ ∀ r ∈ L, SzR r
theorem SzL.row {L : List (List ByteArray)} (h : SzL L) {i : Nat} {r : List ByteArray} (hr : L[i]? = some r) : SzR r := h.2 r (List.mem_of_getElem? hr)
theorem SzR.cell {r : List ByteArray} (h : SzR r) {i : Nat} {s : ByteArray} (hs : r[i]? = some s) : s.size ≤ 100000 := h.2 s (List.mem_of_getElem? hs)
theorem SzL.nmax {L : List (List ByteArray)} (h : SzL L) : nmax L ≤ 100000 := nmax_le fun r hr => (h.2 r hr).1
theorem SzL.take {L : List (List ByteArray)} (h : SzL L) (k : Nat) : SzL (L.take k) := ⟨by have := h.1; rw [List.length_take]; omega, fun r hr => h.2 r (List.mem_of_mem_take hr)⟩
theorem SzL.col {L : List (List ByteArray)} (h : SzL L) (k : Nat) : colAt L k ≤ 100000 := colAt_le fun r hr s hs => (h.2 r hr).2 s hs
theorem SzR.cellB {r : List ByteArray} (h : SzR r) (k : Nat) : (cellB r k).size ≤ 100000 := by
  cases hk : r[k]? with
  | none => rw [cellB_none (by rw [List.getElem?_eq_none_iff] at hk; exact hk)]; exact Nat.zero_le _
  | some s => rw [cellB_some hk]; exact h.cell hk
/-- One element of a row of the call's own is stored. -/
theorem own_set {w : World} {base e g n cap : Nat} {xs : List Value} (j : Nat) (u : Value) (h : w.ownsRow base e 1 (.slice (some ⟨g, 0, none⟩) n cap) n xs) :
    (w.setCell ⟨g, j, none⟩ u).ownsRow base e 1 (.slice (some ⟨g, 0, none⟩) n cap) n (xs.set j u) ∧ Below base w (w.setCell ⟨g, j, none⟩ u) := by
  have h2 := h.stored j u
  exact ⟨h2.1, (Below.refl _ _).grown h2.2 (Nat.le_of_lt (Nat.lt_of_le_of_lt (h.lt g rfl).1 (h.lt g rfl).2)) fun k hk => by cases hk; exact (h.lt g rfl).1⟩
def intV (l : List Int) : List Value := l.map (.int .i64)
theorem intV_len (l : List Int) : (intV l).length = l.length := by unfold intV; simp
theorem intV_set (l : List Int) (j : Nat) (x : Int) : (intV l).set j (.int .i64 x) = intV (l.set j x) := by unfold intV; rw [List.map_set]
theorem intV_app (l : List Int) (x : Int) : intV l ++ [.int .i64 x] = intV (l ++ [x]) := by unfold intV; simp
/-- A row of integers of the call's own. -/
def OwnI (w : World) (base : Nat) (v : Value) (l : List Int) : Prop := w.ownsRow base 3 1 v l.length (intV l)
theorem OwnI.nil (w : World) (base : Nat) : OwnI w base (.slice none 0 0) [] := World.ownsRow_nil _ _ _ _
theorem OwnI.on {w w' : World} {base : Nat} {v : Value} {l : List Int} (h : OwnI w base v l) (hb : Below w.heap.size w w') : OwnI w' base v l := own_below h hb
theorem OwnI.form {w : World} {base : Nat} {v : Value} {l : List Int} (h : OwnI w base v l) : ∃ A c, v = .slice A l.length c ∧ l.length ≤ c ∧ c ≤ 9223372036854775807 ∧ IR w w.heap.size A l.length l := own_form h
theorem OwnI.at_ {w : World} {base : Nat} {v : Value} {l : List Int} (h : OwnI w base v l) {j : Nat} {x : Int} (hj : l[j]? = some x) :
    ∃ g cap, v = .slice (some ⟨g, 0, none⟩) l.length cap ∧ base ≤ g ∧ g < w.heap.size ∧ w.cell? ⟨g, j, none⟩ = some (.int .i64 x) ∧ w.frozen? ⟨g, j, none⟩ = false := by
  have hl := (List.getElem?_eq_some_iff.1 hj).1
  obtain ⟨g, cap, rfl, h1, h2⟩ := World.ownsRow.form h (by omega)
  refine ⟨g, cap, rfl, h1, h2, ?_, World.ownsRow.frozenAt h j⟩
  rw [World.ownsRow.cellAt h j (by omega)]
  unfold intV
  rw [List.getElem?_map, hj]
  rfl
theorem OwnI.set {w : World} {base g n cap : Nat} {l : List Int} (h : OwnI w base (.slice (some ⟨g, 0, none⟩) n cap) l) (hn : n = l.length) (j : Nat) (x : Int) :
    OwnI (w.setCell ⟨g, j, none⟩ (.int .i64 x)) base (.slice (some ⟨g, 0, none⟩) n cap) (l.set j x) ∧ Below base w (w.setCell ⟨g, j, none⟩ (.int .i64 x)) := by
  subst hn
  have h1 := own_set j (.int .i64 x) h
  rw [intV_set] at h1
  refine ⟨?_, h1.2⟩
  show World.ownsRow _ _ _ _ _ _ _
  rw [List.length_set]
  exact h1.1
theorem info_int2 : (Tryd.prog.info? 3).map (fun i => (i.zero, i.size, i.bytes)) = some (some (.int .i64 0), 1, 8) := by kernel_rfl

theorem take_at2 {α : Type} {l : List α} {k : Nat} {x : α} (h : l[k]? = some x) : l.take (k + 1) = l.take k ++ [x] := by rw [List.take_add_one, h]; rfl
set_option maxHeartbeats 400000 in
theorem cell_any (A : Option Addr) (n c : Nat) (r : List ByteArray) (k : Nat) (w : World) (hr : SR w w.heap.size A n r) (hn : n ≤ 9223372036854775807) (hk : k ≤ 9223372036854775807) :
    Calls Tryd.prog 35 #[.slice A n c, .int .i64 (k : Int)] w fun e w' => e = .returned (.string (cellB r k)) ∧ w = w' := by
  have hln := hr.len
  by_cases hlt : k < n
  · obtain ⟨ad, x, rfl, _, hx, hcx⟩ := hr.at_ hlt
    have HX : Hid (x = cellB r k) := (cellB_some hx).symm
    clear hx hln
    have hkz : (k : Int) < (n : Int) := by omega
    go_enter Tryd.func35, Tryd.ntmps35
    go_wp2
    go_ret
    exact ⟨ret_str HX.out, rfl⟩
  · have HX : Hid (⟨#[]⟩ = cellB r k) := (cellB_none (by omega)).symm
    clear hln
    have hkz : ¬ (k : Int) < (n : Int) := by omega
    go_enter Tryd.func35, Tryd.ntmps35
    go_wp2
    go_ret
    exact ⟨ret_str HX.out, rfl⟩
end Go.Proofs.YtacfeabdeaikhaaDoor

/-
  Columns, and that of the reference.
-/
namespace Go.Proofs.YtacfeabdeaikhaaDoor
open Go.RowKit Ru Lay
attribute [local go_sem ↓] Go.wp_at_zero Go.wp_at_succ
set_option linter.unusedVariables false
set_option linter.unusedSimpArgs false

set_option maxHeartbeats 4000000 in
set_option maxRecDepth 100000 in
theorem columns_any (A : Option Addr) (n c : Nat) (L : List (List ByteArray)) (w : World) (hL : RowsR w w.heap.size A n L) (hz : SzL L) (hT : Tabs w) :
    Calls Tryd.prog 19 #[.slice A n c] w fun e w' => ∃ v, e = .returned v ∧ OwnI w' w.heap.size v (cols L) ∧ Below w.heap.size w w' := by
  have HT := Lib.hid hT
  have HL := Lib.hid hL
  have HZ := Lib.hid hz
  have HLN := Lib.hid hL.len
  have hn : n ≤ 100000 := by have := hL.len; have := hz.1; omega
  clear hT hL hz
  go_enter Tryd.func19, Tryd.ntmps19
  go_wp2_with fail
  go_loopw [3, 10] (fun v3 v10 wr => ∃ i : Nat, i ≤ n ∧ v10 = .int .i64 i ∧ Hid (OwnI wr w.heap.size v3 (cols (L.take i))) ∧ Hid (Below w.heap.size w wr)) (fun _ v10 _ => n - (intOf v10).toNat)
  case atStart => exact ⟨0, Nat.zero_le _, rfl, (by rw [List.take_zero]; exact OwnI.nil _ _), Below.refl _ _⟩
  case round =>
    obtain ⟨i, hi, rfl, HO, HB⟩ := hrel
    obtain ⟨w0, hw0⟩ : ∃ w0, wr = w0 := ⟨_, rfl⟩
    rw [hw0] at HO HB ⊢
    clear hw0
    by_cases hlt : i < n
    · have hiz : (i : Int) < (n : Int) := by omega
      obtain ⟨ad, r, RA, rn, rc, rfl, hadb, hr, hcr, hsr, _, _⟩ := HL.out.at_ hlt
      have hcr0 : w0.cell? (ad.add i) = some (.slice RA rn rc) := (HB.out.cell (by rw [block_of_add]; exact hadb)).trans hcr
      have HR := Lib.hid hr
      have HSR := Lib.hid hsr
      have HRN : Hid (r.length = rn) := hsr.len
      have hrn : rn ≤ 100000 := by have := HRN.out; have := (HZ.out.row hr).1; omega
      have HSZ := Lib.hid (HZ.out.row hr)
      obtain ⟨Lt, hLt⟩ : ∃ Lt, L.take i = Lt := ⟨_, rfl⟩
      have HNX : Hid (L.take (i + 1) = Lt ++ [r]) := by show _ = _; rw [take_at2 hr, hLt]
      have HNM : Hid (nmax Lt ≤ 100000) := by show _ ≤ _; rw [← hLt]; exact (HZ.out.take i).nmax
      rw [hLt] at HO
      have HI := Lib.hid hlt
      clear hcr hsr hr hLt
      go_wp2_with fail
      clear hcr0
      go_loopw [3, 16] (fun v3 v16 w1 => ∃ j m : Nat, j ≤ rn ∧ v16 = .int .i64 j ∧ Hid (m = max (nmax Lt) j) ∧ Hid (OwnI w1 w.heap.size v3 (colsG m Lt r j)) ∧ Hid (Below w.heap.size w w1)) (fun _ v16 _ => rn - (intOf v16).toNat)
      case atStart =>
        refine ⟨0, nmax Lt, Nat.zero_le _, rfl, (by show _ = _; omega), ?_, HB⟩
        have h0 : colsG (nmax Lt) Lt r 0 = cols Lt := by rw [colsG_zero]; rfl
        rw [h0]
        exact HO
      case round =>
        clear HO HB
        obtain ⟨j, m0, hj, rfl, HM0, HO, HB⟩ := hrel
        obtain ⟨w1, hw1⟩ : ∃ w1, w1 = wr := ⟨_, rfl⟩
        rw [← hw1] at HO HB ⊢
        clear hw1
        by_cases hjl : j < rn
        · have hjz : (j : Int) < (rn : Int) := by omega
          obtain ⟨rd, s, rfl, hrb, hs, hcs⟩ := HSR.out.at_ hjl
          have hcs1 : w1.cell? (rd.add j) = some (.string s) := (HB.out.cell (by rw [block_of_add]; exact hrb)).trans hcs
          have HS := Lib.hid hs
          have hss := HSZ.out.cell hs
          have HWD := Lib.hid fun W (hb : Below w.heap.size w W) => width_any s W (by omega) (HT.out.on hb)
          have hm0 : m0 ≤ 200000 := by have h1 := HM0.out; have h2 := HNM.out; omega
          obtain ⟨vA, vc, hvf, _, _, _⟩ := HO.out.form
          rw [colsG_len] at hvf
          subst hvf
          have hszw := HB.out.size
          clear hcs hs
          by_cases hjm0 : j < m0
          · have hne : ((j : Int) == (m0 : Int)) = false := beq_eq_false_iff_ne.2 (by omega)
            have hne2 : ¬ j = m0 := by omega
            obtain ⟨m, hm⟩ : ∃ m, m = m0 := ⟨_, rfl⟩
            have HMX : Hid (m = max (nmax Lt) (j + 1)) := by show _ = _; have := HM0.out; omega
            have HJM : Hid (j < m) := by show _ < _; omega
            obtain ⟨WW, hWW⟩ : ∃ WW, WW = w1 := ⟨_, rfl⟩
            rw [← hm] at HO hne hne2 hm0 ⊢
            rw [← hWW] at HO HB hszw hcs1 ⊢
            have HO2 := HO
            have HBW := HB
            clear hm hWW hjm0 HM0 HO HB
            go_wp2_with fail
            have hlx : (colsG m Lt r j)[j]? = some (colAt Lt j : Int) := by rw [colsG_at HJM.out, if_neg (by omega)]
            obtain ⟨g, cap, hv, hg1, hgl, hcl, hfl⟩ := HO2.out.at_ hlx
            have hml : (colsG m Lt r j).length = m := colsG_len _ _ _ _
            rw [hml] at hv
            first | subst hv | cases hv
            have HX : Hid ((colsG m Lt r j).set j (max (colAt Lt j : Int) (widB s : Int)) = colsG m Lt r (j + 1)) := by
              have h0 := colsG_set (n := m) (L := Lt) (r := r) (j := j) HJM.out
              rw [cellB_some HS.out] at h0
              exact h0
            obtain ⟨x, hx⟩ : ∃ x : Int, (colAt Lt j : Int) = x := ⟨_, rfl⟩
            rw [hx] at hcl HX
            obtain ⟨y, hy⟩ : ∃ y : Int, (widB s : Int) = y := ⟨_, rfl⟩
            rw [hy] at HWD HX
            have hjA : (0 : Int) ≤ (j : Int) := by omega
            have hjm := HJM.out
            have hjmz : (j : Int) < (m : Int) := by omega
            have HML := Lib.hid hml
            clear hlx hml hx hy
            have eaddr : (⟨g, 0, none⟩ : Addr).add j = ⟨g, j, none⟩ := by
              unfold Addr.add
              split
              · rename_i h; simp [h]
              · simp
            go_region_with ((go_at_call 13; refine (HWD.out _ (HBW.out.drew)).mono ?_; rintro e w3 ⟨rfl, hb3⟩
                             have hl3 : w3.cell? ⟨g, j, none⟩ = some (.int .i64 x) := (hb3.cell hgl).trans hcl
                             have hf3 : w3.frozen? ⟨g, j, none⟩ = false := (hb3.frozen hgl).trans hfl))
            all_goals
              have HBB : Hid (Below WW.heap.size WW w3) := (Below.refl _ WW).drew.trans hb3
              have hown3 := HO2.out.on HBB.out
              have hst := hown3.set HML.out.symm j (max x y)
              rw [HX.out] at hst
              have HO4 := Lib.hid hst.1
              have HB4 : Hid (Below w.heap.size w (w3.setCell ⟨g, j, none⟩ (.int .i64 (max x y)))) := (HBW.out.trans (HBB.out.mono HBW.out.size)).trans hst.2
              clear hst hown3 hb3 hl3 hf3
              go_wp2
              go_roundw
              case rel => exact ⟨j + 1, m, by omega, by go_num, HMX.out, HO4, HB4⟩
              case measure => simp [intOf]; omega
          · have hje : j = m0 := by have := HM0.out; omega
            have hne : ((j : Int) == (m0 : Int)) = true := beq_iff_eq.2 (by omega)
            have HOW : Hid (w1.ownsRow w.heap.size 3 1 (.slice vA m0 vc) m0 (intV (colsG m0 Lt r j))) := by
              have h0 := HO.out
              unfold OwnI at h0
              rw [colsG_len] at h0
              exact h0
            obtain ⟨m, hm⟩ : ∃ m, m = m0 + 1 := ⟨_, rfl⟩
            have HMX : Hid (m = max (nmax Lt) (j + 1)) := by show _ = _; have := HM0.out; omega
            have HJM : Hid (j < m) := by show _ < _; omega
            have HCG : Hid (colsG m0 Lt r j ++ [0] = colsG m Lt r j) := by
              show _ = _
              rw [hm]
              exact colsG_more (by have := HM0.out; omega) (by omega)
            have HMM := Lib.hid hm
            clear hje hm hjm0 HM0 HO
            go_wp2_with (at_builtin; refine wpList_app1 rfl (.tmp 25) (.tmp 26) 29 rfl w.heap.size 3 8 _ info_int2 rfl Tryd.underlying29 rfl HOW.out rfl rfl (by omega) (by omega) hszw ?_; rintro v7 WW hown7 hb7 hs7 hk7; clear hk7)
            have HO2 : Hid (OwnI WW w.heap.size v7 (colsG m Lt r j)) := by
              show World.ownsRow _ _ _ _ _ _ _
              rw [colsG_len, HMM.out, ← HMM.out, ← HCG.out, ← intV_app, HMM.out]
              exact hown7
            have HBW : Hid (Below w.heap.size w WW) := HB.out.trans hb7
            have hszW := HBW.out.size
            clear hown7 hb7 hs7 HOW HCG
            have hlx : (colsG m Lt r j)[j]? = some (colAt Lt j : Int) := by rw [colsG_at HJM.out, if_neg (by omega)]
            obtain ⟨g, cap, hv, hg1, hgl, hcl, hfl⟩ := HO2.out.at_ hlx
            have hml : (colsG m Lt r j).length = m := colsG_len _ _ _ _
            rw [hml] at hv
            first | subst hv | cases hv
            have HX : Hid ((colsG m Lt r j).set j (max (colAt Lt j : Int) (widB s : Int)) = colsG m Lt r (j + 1)) := by
              have h0 := colsG_set (n := m) (L := Lt) (r := r) (j := j) HJM.out
              rw [cellB_some HS.out] at h0
              exact h0
            obtain ⟨x, hx⟩ : ∃ x : Int, (colAt Lt j : Int) = x := ⟨_, rfl⟩
            rw [hx] at hcl HX
            obtain ⟨y, hy⟩ : ∃ y : Int, (widB s : Int) = y := ⟨_, rfl⟩
            rw [hy] at HWD HX
            have hjA : (0 : Int) ≤ (j : Int) := by omega
            have hjm := HJM.out
            have hjmz : (j : Int) < (m : Int) := by omega
            have HML := Lib.hid hml
            clear hlx hml hx hy
            have eaddr : (⟨g, 0, none⟩ : Addr).add j = ⟨g, j, none⟩ := by
              unfold Addr.add
              split
              · rename_i h; simp [h]
              · simp
            go_region_with ((go_at_call 13; refine (HWD.out _ (HBW.out.drew)).mono ?_; rintro e w3 ⟨rfl, hb3⟩
                             have hl3 : w3.cell? ⟨g, j, none⟩ = some (.int .i64 x) := (hb3.cell hgl).trans hcl
                             have hf3 : w3.frozen? ⟨g, j, none⟩ = false := (hb3.frozen hgl).trans hfl))
            all_goals
              have HBB : Hid (Below WW.heap.size WW w3) := (Below.refl _ WW).drew.trans hb3
              have hown3 := HO2.out.on HBB.out
              have hst := hown3.set HML.out.symm j (max x y)
              rw [HX.out] at hst
              have HO4 := Lib.hid hst.1
              have HB4 : Hid (Below w.heap.size w (w3.setCell ⟨g, j, none⟩ (.int .i64 (max x y)))) := (HBW.out.trans (HBB.out.mono HBW.out.size)).trans hst.2
              clear hst hown3 hb3 hl3 hf3
              go_wp2
              go_roundw
              case rel => exact ⟨j + 1, m, by omega, by go_num, HMX.out, HO4, HB4⟩
              case measure => simp [intOf]; omega
        · obtain rfl : j = rn := by omega
          have hjz : ¬ (j : Int) < (j : Int) := by omega
          have hcc : colsG m0 Lt r j = cols (L.take (i + 1)) := by rw [HNX.out, ← colsG_fin, HRN.out, ← HM0.out]
          have h0 := HO.out
          rw [hcc] at h0
          have HO5 := Lib.hid h0
          clear hcc h0
          have hi1 : i + 1 ≤ n := HI.out
          go_wp2
          go_roundw
          case rel => exact ⟨i + 1, hi1, by go_num, HO5, HB⟩
          case measure => have := HI.out; simp [intOf]; omega
    · obtain rfl : i = n := by omega
      have hjz : ¬ (i : Int) < (i : Int) := by omega
      have h0 := HO.out
      rw [List.take_of_length_le (by rw [HLN.out]; exact Nat.le_refl _)] at h0
      have HO5 := Lib.hid h0
      clear h0
      go_wp2
      go_ret
      exact ⟨_, rfl, HO5.out, HB.out⟩
theorem made_zeros (n : Nat) : (madeCells (Value.int .i64 0).cells (n * 1)).toList = intV (colsG n [] [] 0) := by
  unfold intV
  rw [colsG_zero, List.map_map]
  refine List.ext_getElem? fun k => ?_
  by_cases hk : k < n
  · rw [List.getElem?_map, List.getElem?_range hk]
    simp [madeCells, hk, Value.cells, colAt, Nat.mod_one]
  · have h1 : (madeCells (Value.int .i64 0).cells (n * 1)).toList.length = n := by rw [Array.length_toList, size_madeCells, Nat.mul_one]
    rw [List.getElem?_eq_none (by rw [h1]; omega), List.getElem?_eq_none (by simp; omega)]
def colsN (m : Nat) (L : List (List ByteArray)) : List Int := (List.range m).map fun k => (colAt L k : Int)
theorem colsN_zero (m : Nat) (L : List (List ByteArray)) (r : List ByteArray) : colsG m L r 0 = colsN m L := colsG_zero m L r
theorem colsN_end {m : Nat} {L : List (List ByteArray)} {r : List ByteArray} {j : Nat} (h : r.length ≤ j) : colsG m L r j = colsN m (L ++ [r]) := colsG_end h
set_option maxHeartbeats 4000000 in
set_option maxRecDepth 100000 in
theorem refColumns_any (A : Option Addr) (n c : Nat) (L : List (List ByteArray)) (w : World) (hL : RowsR w w.heap.size A n L) (hz : SzL L) :
    Calls Tryd.prog 20 #[.slice A n c] w fun e w' => ∃ v, e = .returned v ∧ OwnI w' w.heap.size v (cols L) ∧ Below w.heap.size w w' := by
  have HL := Lib.hid hL
  have HZ := Lib.hid hz
  have HLN := Lib.hid hL.len
  have hn : n ≤ 100000 := by have := hL.len; have := hz.1; omega
  clear hL hz
  obtain ⟨i0, hinf, hz0, hz1, hz2⟩ := info_parts info_int2
  go_enter Tryd.func20, Tryd.ntmps20
  go_wp2_with fail
  go_loop [3, 4] (fun v3 v4 => ∃ i : Nat, i ≤ n ∧ v4 = .int .i64 i ∧ v3 = .int .i64 (nmax (L.take i) : Int)) (fun _ v4 => n - (intOf v4).toNat)
  case atStart => exact ⟨0, Nat.zero_le _, rfl, rfl⟩
  case round =>
    obtain ⟨i, hi, rfl, rfl⟩ := hrel
    by_cases hlt : i < n
    · have hiz : (i : Int) < (n : Int) := by omega
      obtain ⟨ad, r, RA, rn, rc, rfl, hadb, hr, hcr, hsr, _, _⟩ := HL.out.at_ hlt
      have HNX : Hid (max (nmax (L.take i) : Int) (rn : Int) = (nmax (L.take (i + 1)) : Int)) := by
        show _ = _
        rw [take_at2 hr, nmax_snoc, hsr.len]
        omega
      clear hr hsr
      go_wp2
      go_round
      case rel => exact ⟨i + 1, by omega, by go_num, by rw [HNX.out]⟩
      case measure => simp [intOf]; omega
    · obtain rfl : n = i := by omega
      have hjz : ¬ (n : Int) < (n : Int) := by omega
      have hNM := HZ.out.nmax
      have e1 : L.take n = L := List.take_of_length_le (by rw [HLN.out]; exact Nat.le_refl _)
      rw [e1]
      obtain ⟨m, hm⟩ : ∃ m, nmax L = m := ⟨_, rfl⟩
      have HM := Lib.hid hm
      rw [hm] at hNM ⊢
      clear hm e1
      go_wp2_with (at_make; refine wpList_make_full _ rfl (.tmp 21) (.tmp 21) 29 rfl w.heap.size 3 i0 (.int .i64 0) 1 Tryd.underlying29 hinf hz0 hz1 .i64 .i64 _ _ m rfl rfl rfl rfl (by rw [hz2]; omega) (by unfold maxLen; omega) (Nat.le_refl _) ?_; intro w1 hown1 hgr1)
      rw [made_zeros] at hown1
      have HO1 : Hid (OwnI w1 w.heap.size (.slice (some ⟨w.heap.size, 0, none⟩) m m) (colsN m (L.take 0))) := by
        show World.ownsRow _ _ _ _ _ _ _
        rw [List.take_zero, ← colsN_zero m [] [], colsG_len]
        exact hown1
      have HB1 : Hid (Below w.heap.size w w1) := (Below.refl _ w).grown hgr1 (Nat.le_refl _) (fun r e => by cases e)
      obtain ⟨vo, hvo⟩ : ∃ vo, Value.slice (some ⟨w.heap.size, 0, none⟩) m m = vo := ⟨_, rfl⟩
      rw [hvo] at HO1 ⊢
      clear hown1 hgr1 hvo
      go_loopw [6, 7] (fun v6 _ wr => ∃ i : Nat, i ≤ n ∧ v6 = .int .i64 i ∧ Hid (OwnI wr w.heap.size vo (colsN m (L.take i))) ∧ Hid (Below w.heap.size w wr)) (fun v6 _ _ => n - (intOf v6).toNat)
      case atStart => exact ⟨0, Nat.zero_le _, rfl, HO1, HB1⟩
      case round =>
        clear HO1 HB1
        obtain ⟨i, hi, rfl, HO, HB⟩ := hrel
        obtain ⟨w0, hw0⟩ : ∃ w0, wr = w0 := ⟨_, rfl⟩
        rw [hw0] at HO HB ⊢
        clear hw0
        by_cases hlt : i < n
        · have hiz : (i : Int) < (n : Int) := by omega
          obtain ⟨ad, r, RA, rn, rc, rfl, hadb, hr, hcr, hsr, _, _⟩ := HL.out.at_ hlt
          have HCR : Hid (∀ W, Below w.heap.size w W → W.cell? (ad.add i) = some (.slice RA rn rc)) := fun W hW => (hW.cell (by rw [block_of_add]; exact hadb)).trans hcr
          have HSR := Lib.hid hsr
          have HRN : Hid (r.length = rn) := hsr.len
          have hrn : rn ≤ 100000 := by have := HRN.out; have := (HZ.out.row hr).1; omega
          have HSZ := Lib.hid (HZ.out.row hr)
          obtain ⟨Lt, hLt⟩ : ∃ Lt, L.take i = Lt := ⟨_, rfl⟩
          have HNX : Hid (L.take (i + 1) = Lt ++ [r]) := by show _ = _; rw [take_at2 hr, hLt]
          have HRM : Hid (rn ≤ m) := by show _ ≤ _; rw [← HM.out, ← HRN.out]; exact le_nmax (List.mem_of_getElem? hr)
          rw [hLt, ← colsN_zero m Lt r] at HO
          have HI := Lib.hid hlt
          have hix : (i : Int) < (n : Int) := hiz
          have hiA : (0 : Int) ≤ (i : Int) := by omega
          clear hcr hsr hr hLt
          go_wp2_with fail
          go_loopw [7] (fun v7 w1 => ∃ j : Nat, j ≤ m ∧ v7 = .int .i64 j ∧ Hid (OwnI w1 w.heap.size vo (colsG m Lt r j)) ∧ Hid (Below w.heap.size w w1)) (fun v7 _ => m - (intOf v7).toNat)
          case atStart => exact ⟨0, Nat.zero_le _, rfl, HO, HB⟩
          case round =>
            clear HO HB
            obtain ⟨j, hj, rfl, HO2, HBW⟩ := hrel
            obtain ⟨WW, hWW⟩ : ∃ WW, WW = wr := ⟨_, rfl⟩
            rw [← hWW] at HO2 HBW ⊢
            clear hWW
            by_cases hjl : j < m
            · have HJM : Hid (j < m) := hjl
              obtain ⟨s, hs⟩ : ∃ s, cellB r j = s := ⟨_, rfl⟩
              have hss := HSZ.out.cellB j
              have HCE := Lib.hid fun W (hb : Below w.heap.size w W) => cell_any RA rn rc r j W (SR.on HSR.out hb) (by omega) (by omega)
              have HWD := Lib.hid fun W => refWidth_any s W (by rw [← hs]; omega)
              have HSC := Lib.hid hs
              rw [hs] at HCE hss
              have hcr0 := HCR.out WW HBW.out
              clear hs
              have hlx : (colsG m Lt r j)[j]? = some (colAt Lt j : Int) := by rw [colsG_at HJM.out, if_neg (by omega)]
              obtain ⟨g, cap, hv, hg1, hgl, hcl, hfl⟩ := HO2.out.at_ hlx
              have hml : (colsG m Lt r j).length = m := colsG_len _ _ _ _
              rw [hml] at hv
              first | subst hv | cases hv
              have HX : Hid ((colsG m Lt r j).set j (max (colAt Lt j : Int) (widB s : Int)) = colsG m Lt r (j + 1)) := by
                have h0 := colsG_set (n := m) (L := Lt) (r := r) (j := j) HJM.out
                rw [HSC.out] at h0
                exact h0
              obtain ⟨x, hx⟩ : ∃ x : Int, (colAt Lt j : Int) = x := ⟨_, rfl⟩
              rw [hx] at hcl HX
              obtain ⟨y, hy⟩ : ∃ y : Int, (widB s : Int) = y := ⟨_, rfl⟩
              rw [hy] at HWD HX
              have hjA : (0 : Int) ≤ (j : Int) := by omega
              have hjm := HJM.out
              have hjmz : (j : Int) < (m : Int) := by omega
              have HML := Lib.hid hml
              clear hlx hml hx hy
              have eaddr : (⟨g, 0, none⟩ : Addr).add j = ⟨g, j, none⟩ := by
                unfold Addr.add
                split
                · rename_i h; simp [h]
                · simp
              go_wp2_with fail
              go_region_with ((first
                | (go_at_call 35; refine (HCE.out _ (HBW.out.drew)).mono ?_; rintro e w2 ⟨rfl, rfl⟩)
                | (go_at_call 14; refine (HWD.out _).mono ?_; rintro e w3 ⟨rfl, hb3⟩
                   have hl3 : w3.cell? ⟨g, j, none⟩ = some (.int .i64 x) := (hb3.cell hgl).trans hcl
                   have hf3 : w3.frozen? ⟨g, j, none⟩ = false := (hb3.frozen hgl).trans hfl)))
              all_goals
                have HBB : Hid (Below WW.heap.size WW w3) := (Below.refl _ WW).drew.trans hb3
                have hown3 := HO2.out.on HBB.out
                have hst := hown3.set HML.out.symm j (max x y)
                rw [HX.out] at hst
                have HO4 := Lib.hid hst.1
                have HB4 : Hid (Below w.heap.size w (w3.setCell ⟨g, j, none⟩ (.int .i64 (max x y)))) := (HBW.out.trans (HBB.out.mono HBW.out.size)).trans hst.2
                clear hst hown3 hb3 hl3 hf3
                go_wp2
                go_roundw
                case rel => exact ⟨j + 1, by omega, by go_num, HO4, HB4⟩
                case measure => simp [intOf]; omega
            · obtain rfl : m = j := by omega
              have hjz : ¬ (m : Int) < (m : Int) := by omega
              have hcc : colsG m Lt r m = colsN m (L.take (i + 1)) := by rw [HNX.out]; exact colsN_end (by have := HRN.out; have := HRM.out; omega)
              have h0 := HO2.out
              rw [hcc] at h0
              have HO5 := Lib.hid h0
              clear hcc h0
              have hi1 : i + 1 ≤ n := HI.out
              go_wp2
              go_roundw
              case rel => exact ⟨i + 1, hi1, by go_num, HO5, HBW⟩
              case measure => have := HI.out; simp [intOf]; omega
        · obtain rfl : n = i := by omega
          have hjz : ¬ (n : Int) < (n : Int) := by omega
          have h0 := HO.out
          rw [List.take_of_length_le (by rw [HLN.out]; exact Nat.le_refl _)] at h0
          have h1 : colsN m L = cols L := by rw [← HM.out]; rfl
          rw [h1] at h0
          have HO5 := Lib.hid h0
          clear h0 h1
          go_wp2
          go_ret
          exact ⟨_, rfl, HO5.out, HB.out⟩
end Go.Proofs.YtacfeabdeaikhaaDoor
