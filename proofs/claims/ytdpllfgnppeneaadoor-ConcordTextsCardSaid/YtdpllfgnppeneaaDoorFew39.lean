/-
  The laws' own helpers: texts, few.
-/
import Derived.Test.YtdpllfgnppeneaaDoorG06
namespace Go.Proofs.YtdpllfgnppeneaaDoor
open Go.RowKit Ru Lay
attribute [local go_sem ↓] Go.wp_at_zero Go.wp_at_succ
set_option linter.unusedVariables false
set_option linter.unusedSimpArgs false

def FewT (l : List ByteArray) : Prop := l.length ≤ 10 ∧ ∀ s ∈ l, s.size ≤ 100
def FewH (h : Ht) : Prop := h.key.size ≤ 100 ∧ FewT h.left ∧ FewT h.right
def FewL (l : List Ht) : Prop := l.length ≤ 30 ∧ ∀ h ∈ l, FewH h
theorem FewT.sz {l : List ByteArray} (h : FewT l) : SzS l := ⟨by have := h.1; omega, fun s hs => by have := h.2 s hs; omega⟩
theorem FewH.sz {h : Ht} (hh : FewH h) : HvZ h := ⟨hh.2.1.sz, hh.2.2.sz, by have := hh.1; omega⟩
def BoolPost (p : Prop) (w : World) (e : Ending) (w' : World) : Prop := ∃ b, e = .returned (.bool b) ∧ (b = true ↔ p) ∧ w = w'
theorem BoolPost.no {p : Prop} {w : World} (h : ¬ p) : BoolPost p w (.returned (.bool false)) w := ⟨false, rfl, ⟨fun h => (by cases h), fun h2 => absurd h2 h⟩, rfl⟩
theorem BoolPost.yes {p : Prop} {w : World} (h : p) : BoolPost p w (.returned (.bool true)) w := ⟨true, rfl, ⟨fun _ => h, fun _ => rfl⟩, rfl⟩
theorem pre_all {α : Type} {l : List α} {Q : α → Prop} (h : ∀ j x, j < l.length → l[j]? = some x → Q x) : ∀ x ∈ l, Q x := fun x hx => by
  obtain ⟨j, hj⟩ := List.getElem?_of_mem hx
  exact h j x (List.getElem?_eq_some_iff.1 hj).1 hj
theorem pre_next {α : Type} {l : List α} {Q : α → Prop} {i : Nat} {x : α} (h : ∀ j y, j < i → l[j]? = some y → Q y) (hx : l[i]? = some x) (hq : Q x) : ∀ j y, j < i + 1 → l[j]? = some y → Q y := fun j y hj hy => by
  by_cases e : j = i
  · subst e
    rw [hx] at hy
    cases hy
    exact hq
  · exact h j y (by omega) hy
set_option maxHeartbeats 1000000 in
theorem texts_any (A : Option Addr) (n c : Nat) (l : List ByteArray) (w : World) (hl : SR w w.heap.size A n l) (hn : n ≤ 9223372036854775807) :
    Calls Tryd.prog 31 #[.slice A n c] w (BoolPost (FewT l) w) := by
  have HL := Lib.hid hl
  have HLN := Lib.hid hl.len
  clear hl
  by_cases h10 : n ≤ 10
  · have hd : ¬ (10 : Int) < (n : Int) := by omega
    go_enter Tryd.func31, Tryd.ntmps31
    go_wp2_with fail
    go_loop [3] (fun v3 => ∃ i : Nat, i ≤ n ∧ v3 = .int .i64 i ∧ Hid (∀ j s, j < i → l[j]? = some s → s.size ≤ 100)) (fun v3 => n - (intOf v3).toNat)
    case atStart => exact ⟨0, Nat.zero_le _, rfl, fun j r h => by omega⟩
    case round =>
      obtain ⟨i, hi, rfl, HP⟩ := hrel
      by_cases hlt : i < n
      · have hiz : (i : Int) < (n : Int) := by omega
        have hiA : (0 : Int) ≤ (i : Int) := by omega
        obtain ⟨ad, s, rfl, hadb, hs, hcs⟩ := HL.out.at_ hlt
        have HS := Lib.hid hs
        clear hs
        by_cases h60 : s.size ≤ 100
        · have hd3 : ¬ (100 : Int) < (s.size : Int) := by omega
          have HQ2 := Lib.hid (pre_next HP.out HS.out h60)
          go_wp2
          go_round
          case rel => exact ⟨i + 1, by omega, by go_num, HQ2⟩
          case measure => simp [intOf]; omega
        · have hd3 : (100 : Int) < (s.size : Int) := by omega
          have HN : Hid (¬ FewT l) := fun hf => h60 (hf.2 s (List.mem_of_getElem? HS.out))
          go_wp2
          go_ret
          exact BoolPost.no HN.out
      · obtain rfl : n = i := by omega
        have hiz : ¬ (n : Int) < (n : Int) := by omega
        have HY : Hid (FewT l) := ⟨by rw [HLN.out]; exact h10, pre_all fun j s hj hs => HP.out j s (by rw [← HLN.out]; exact hj) hs⟩
        go_wp2
        go_ret
        exact BoolPost.yes HY.out
  · have hd : (10 : Int) < (n : Int) := by omega
    have HN : Hid (¬ FewT l) := fun hf => h10 (by rw [← HLN.out]; exact hf.1)
    go_enter Tryd.func31, Tryd.ntmps31
    go_wp2
    go_ret
    exact BoolPost.no HN.out
theorem texts_yes {A : Option Addr} {n c : Nat} {l : List ByteArray} {w : World} (hl : SR w w.heap.size A n l) (hn : n ≤ 9223372036854775807) (h : FewT l) :
    Calls Tryd.prog 31 #[.slice A n c] w fun e w' => e = .returned (.bool true) ∧ w' = w := (texts_any A n c l w hl hn).mono fun e w' ⟨b, he, hb, hw⟩ => ⟨by rw [he, hb.2 h], hw.symm⟩
theorem texts_no {A : Option Addr} {n c : Nat} {l : List ByteArray} {w : World} (hl : SR w w.heap.size A n l) (hn : n ≤ 9223372036854775807) (h : ¬ FewT l) :
    Calls Tryd.prog 31 #[.slice A n c] w fun e w' => e = .returned (.bool false) ∧ w' = w := (texts_any A n c l w hl hn).mono fun e w' ⟨b, he, hb, hw⟩ => ⟨by
    cases b with
    | false => exact he
    | true => exact absurd (hb.1 rfl) h, hw.symm⟩
set_option maxHeartbeats 4000000 in
set_option maxRecDepth 100000 in
theorem few_any (A : Option Addr) (n c : Nat) (l : List Hv) (w : World) (hl : HitsR w w.heap.size A n l) (hn : n ≤ 9223372036854775807) :
    Calls Tryd.prog 10 #[.slice A n c] w (BoolPost (FewL (l.map Hv.toHt)) w) := by
  have HL := Lib.hid hl
  have HLN := Lib.hid hl.len
  clear hl
  by_cases h30 : n ≤ 30
  · have hd : ¬ (30 : Int) < (n : Int) := by omega
    go_enter Tryd.func10, Tryd.ntmps10
    go_wp2_with fail
    go_loop [3] (fun v3 => ∃ i : Nat, i ≤ n ∧ v3 = .int .i64 i ∧ Hid (∀ j s, j < i → (l.map Hv.toHt)[j]? = some s → FewH s)) (fun v3 => n - (intOf v3).toNat)
    case atStart => exact ⟨0, Nat.zero_le _, rfl, fun j r h => by omega⟩
    case round =>
      obtain ⟨i, hi, rfl, HP⟩ := hrel
      by_cases hlt : i < n
      · have hiz : (i : Int) < (n : Int) := by omega
        have hiA : (0 : Int) ≤ (i : Int) := by omega
        obtain ⟨ad, x, rfl, hadb, hx, hr, q0, q1, q2, q3, q4⟩ := HL.out.at_ hlt
        have HX := Lib.hid (hts_at hx)
        have HI := Lib.hid hlt
        have HN : Hid (¬ FewH x.toHt → ¬ FewL (l.map Hv.toHt)) := fun h hf => h (hf.2 _ (List.mem_of_getElem? HX.out))
        have hln : x.ln ≤ 9223372036854775807 := Nat.le_trans hr.lc.1 hr.lc.2
        have hrn : x.rn ≤ 9223372036854775807 := Nat.le_trans hr.rc.1 hr.rc.2
        clear hx
        by_cases h1 : x.key.size ≤ 100
        · have hd1 : ¬ (100 : Int) < (x.key.size : Int) := by omega
          by_cases h2 : FewT x.left
          · have HC := Lib.hid (texts_yes (c := x.lc) hr.left hln h2)
            by_cases h3 : FewT x.right
            · have HC2 := Lib.hid (texts_yes (c := x.rc) hr.right hrn h3)
              have HQ2 := Lib.hid (pre_next HP.out HX.out ⟨h1, h2, h3⟩)
              clear h2 h3 hr
              go_wp2_with fail
              refine HC.out.mono ?_
              rintro e w1 ⟨rfl, rfl⟩
              go_wp2_with fail
              refine HC2.out.mono ?_
              rintro e w1 ⟨rfl, rfl⟩
              go_wp2
              go_round
              case rel => exact ⟨i + 1, HI.out, by go_num, HQ2⟩
              case measure => have := HI.out; simp [intOf]; omega
            · have HC2 := Lib.hid (texts_no (c := x.rc) hr.right hrn h3)
              have HR := Lib.hid (HN.out fun h => h3 h.2.2)
              clear h2 h3 hr
              go_wp2_with fail
              refine HC.out.mono ?_
              rintro e w1 ⟨rfl, rfl⟩
              go_wp2_with fail
              refine HC2.out.mono ?_
              rintro e w1 ⟨rfl, rfl⟩
              go_wp2
              go_ret
              exact BoolPost.no HR.out
          · have HC := Lib.hid (texts_no (c := x.lc) hr.left hln h2)
            have HR := Lib.hid (HN.out fun h => h2 h.2.1)
            clear h2 hr
            go_wp2_with fail
            refine HC.out.mono ?_
            rintro e w1 ⟨rfl, rfl⟩
            go_wp2
            go_ret
            exact BoolPost.no HR.out
        · have hd1 : (100 : Int) < (x.key.size : Int) := by omega
          have HR := Lib.hid (HN.out fun h => h1 h.1)
          go_wp2
          go_ret
          exact BoolPost.no HR.out
      · obtain rfl : n = i := by omega
        have hiz : ¬ (n : Int) < (n : Int) := by omega
        have HY : Hid (FewL (l.map Hv.toHt)) := ⟨by rw [List.length_map, HLN.out]; exact h30, pre_all fun j s hj hs => HP.out j s (by rw [← HLN.out, ← List.length_map (f := Hv.toHt)]; exact hj) hs⟩
        go_wp2
        go_ret
        exact BoolPost.yes HY.out
  · have hd : (30 : Int) < (n : Int) := by omega
    have HN : Hid (¬ FewL (l.map Hv.toHt)) := fun hf => h30 (by have := hf.1; rw [List.length_map, HLN.out] at this; exact this)
    go_enter Tryd.func10, Tryd.ntmps10
    go_wp2
    go_ret
    exact BoolPost.no HN.out
end Go.Proofs.YtdpllfgnppeneaaDoor
