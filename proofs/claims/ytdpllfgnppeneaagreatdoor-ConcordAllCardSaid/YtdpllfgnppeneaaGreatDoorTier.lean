/-
  TIERS, as they are read; the small functions of the reference of tiers, and its check of one tier and of all.
-/
import Derived.Test.YtdpllfgnppeneaaGreatDoorG06
import Derived.Test.YtdpllfgnppeneaaGreatDoorPlainLight
import Derived.Test.YtdpllfgnppeneaaGreatDoorLabel
namespace Go.Proofs.YtdpllfgnppeneaaGreatDoor
open Go.RowKit Ru Lay
attribute [local go_sem ↓] Go.wp_at_zero Go.wp_at_succ
set_option linter.unusedVariables false
set_option linter.unusedSimpArgs false

def encT (t : Ti) : List Value := [.string t.name, .int .i64 t.kind, .int .i64 t.role, .int .i64 t.parent]
theorem encT_len (t : Ti) : (encT t).length = 4 := rfl
def TiersR (w : World) (B : Nat) (A : Option Addr) (n : Nat) (l : List Ti) : Prop := RecR encT 4 w B A n l ∧ ∀ t ∈ l, t.name.size ≤ 9223372036854775807
theorem TiersR.len {w : World} {B n : Nat} {A : Option Addr} {l : List Ti} (hh : TiersR w B A n l) : l.length = n := hh.1.2
theorem TiersR.below {w w' : World} {B n : Nat} {A : Option Addr} {l : List Ti} (hh : TiersR w B A n l) (hb : Below B w w') : TiersR w' B A n l := ⟨RecR.below hh.1 hb, hh.2⟩
theorem TiersR.on {w w' : World} {n : Nat} {A : Option Addr} {l : List Ti} (hh : TiersR w w.heap.size A n l) (hb : Below w.heap.size w w') : TiersR w' w'.heap.size A n l := ⟨RecR.on hh.1 hb, hh.2⟩
theorem TiersR.at_ {w : World} {B n k : Nat} {A : Option Addr} {l : List Ti} (hh : TiersR w B A n l) (hk : k < n) :
    ∃ ad x, A = some ad ∧ ad.block < B ∧ l[k]? = some x ∧ x.name.size ≤ 9223372036854775807 ∧ ∀ W, Below B w W → W.cell? (ad.add (k * 4)) = some (.string x.name) ∧ W.cell? ⟨(ad.add (k * 4)).block, (ad.add (k * 4)).off + 1, none⟩ = some (.int .i64 x.kind) ∧
      W.cell? ⟨(ad.add (k * 4)).block, (ad.add (k * 4)).off + 2, none⟩ = some (.int .i64 x.role) ∧ W.cell? ⟨(ad.add (k * 4)).block, (ad.add (k * 4)).off + 3, none⟩ = some (.int .i64 x.parent) := by
  obtain ⟨ad, x, e, hb, hx, _, _⟩ := RecR.at_ encT_len (by omega) hh.1 hk
  refine ⟨ad, x, e, hb, hx, hh.2 x (List.mem_of_getElem? hx), fun W hW => ?_⟩
  obtain ⟨ad', x', e', _, hx', h0, hj⟩ := RecR.at_ encT_len (by omega) (RecR.below hh.1 hW) hk
  rw [e] at e'
  cases e'
  rw [hx] at hx'
  cases hx'
  exact ⟨h0 _ rfl, hj 1 _ (by omega) rfl, hj 2 _ (by omega) rfl, hj 3 _ (by omega) rfl⟩
def kind11 (r : Int) : Int := if r = 1 then 0 else if r = 3 then 3 else if r = 4 then 4 else if r = 5 then 4 else -1
def over11 (r : Int) : Int := if r = 2 then 1 else if r = 5 then 1 else if r = 3 then 2 else if r = 4 then 3 else -1
def rightS (a b : Int) : Bool := decide (0 ≤ a) && (decide (a < b) && decide (b ≤ 86400000))
set_option maxHeartbeats 400000 in
theorem timed_any (k : Int) (w : World) : Calls Tryz.prog 67 #[.int .i64 k] w fun e w' => e = .returned (.bool (timedK k)) ∧ w = w' := by
  by_cases h0 : k = 0
  · subst h0
    go_enter Tryz.func67, Tryz.ntmps67
    go_wp2
    go_ret
    exact ⟨rfl, rfl⟩
  · have b0 : (k == 0) = false := beq_eq_false_iff_ne.2 h0
    by_cases h1 : k = 1
    · subst h1
      go_enter Tryz.func67, Tryz.ntmps67
      go_wp2
      go_ret
      exact ⟨rfl, rfl⟩
    · have b1 : (k == 1) = false := beq_eq_false_iff_ne.2 h1
      by_cases h2 : k = 2
      · subst h2
        go_enter Tryz.func67, Tryz.ntmps67
        go_wp2
        go_ret
        exact ⟨rfl, rfl⟩
      · have b2 : (k == 2) = false := beq_eq_false_iff_ne.2 h2
        go_enter Tryz.func67, Tryz.ntmps67
        go_wp2
        go_ret
        exact ⟨ret_bool (by unfold timedK; simp [h0, h1, h2]), rfl⟩
set_option maxHeartbeats 400000 in
theorem aligned_any (k : Int) (w : World) : Calls Tryz.prog 42 #[.int .i64 k] w fun e w' => e = .returned (.bool (timedK k)) ∧ w = w' := by
  by_cases h0 : k = 0
  · subst h0
    go_enter Tryz.func42, Tryz.ntmps42
    go_wp2
    go_ret
    exact ⟨rfl, rfl⟩
  · have b0 : (k == 0) = false := beq_eq_false_iff_ne.2 h0
    by_cases h1 : k = 1
    · subst h1
      go_enter Tryz.func42, Tryz.ntmps42
      go_wp2
      go_ret
      exact ⟨rfl, rfl⟩
    · have b1 : (k == 1) = false := beq_eq_false_iff_ne.2 h1
      by_cases h2 : k = 2
      · subst h2
        go_enter Tryz.func42, Tryz.ntmps42
        go_wp2
        go_ret
        exact ⟨rfl, rfl⟩
      · have b2 : (k == 2) = false := beq_eq_false_iff_ne.2 h2
        go_enter Tryz.func42, Tryz.ntmps42
        go_wp2
        go_ret
        exact ⟨ret_bool (by unfold timedK; simp [h0, h1, h2]), rfl⟩
set_option maxHeartbeats 400000 in
theorem kind11_any (r : Int) (w : World) : Calls Tryz.prog 68 #[.int .i64 r] w fun e w' => e = .returned (.int .i64 (kind11 r)) ∧ w = w' := by
  by_cases h1 : r = 1
  · subst h1
    go_enter Tryz.func68, Tryz.ntmps68
    go_wp2
    go_ret
    exact ⟨rfl, rfl⟩
  · have b1 : (r == 1) = false := beq_eq_false_iff_ne.2 h1
    by_cases h3 : r = 3
    · subst h3
      go_enter Tryz.func68, Tryz.ntmps68
      go_wp2
      go_ret
      exact ⟨rfl, rfl⟩
    · have b3 : (r == 3) = false := beq_eq_false_iff_ne.2 h3
      by_cases h4 : r = 4
      · subst h4
        go_enter Tryz.func68, Tryz.ntmps68
        go_wp2
        go_ret
        exact ⟨rfl, rfl⟩
      · have b4 : (r == 4) = false := beq_eq_false_iff_ne.2 h4
        by_cases h5 : r = 5
        · subst h5
          go_enter Tryz.func68, Tryz.ntmps68
          go_wp2
          go_ret
          exact ⟨rfl, rfl⟩
        · have b5 : (r == 5) = false := beq_eq_false_iff_ne.2 h5
          have HR : Hid (kind11 r = -1) := by show _ = _; unfold kind11; simp [h1, h3, h4, h5]
          go_enter Tryz.func68, Tryz.ntmps68
          go_wp2
          go_ret
          exact ⟨by rw [HR.out]; rfl, rfl⟩
set_option maxHeartbeats 400000 in
theorem over11_any (r : Int) (w : World) : Calls Tryz.prog 69 #[.int .i64 r] w fun e w' => e = .returned (.int .i64 (over11 r)) ∧ w = w' := by
  by_cases h2 : r = 2
  · subst h2
    go_enter Tryz.func69, Tryz.ntmps69
    go_wp2
    go_ret
    exact ⟨rfl, rfl⟩
  · have b2 : (r == 2) = false := beq_eq_false_iff_ne.2 h2
    by_cases h5 : r = 5
    · subst h5
      go_enter Tryz.func69, Tryz.ntmps69
      go_wp2
      go_ret
      exact ⟨rfl, rfl⟩
    · have b5 : (r == 5) = false := beq_eq_false_iff_ne.2 h5
      by_cases h3 : r = 3
      · subst h3
        go_enter Tryz.func69, Tryz.ntmps69
        go_wp2
        go_ret
        exact ⟨rfl, rfl⟩
      · have b3 : (r == 3) = false := beq_eq_false_iff_ne.2 h3
        by_cases h4 : r = 4
        · subst h4
          go_enter Tryz.func69, Tryz.ntmps69
          go_wp2
          go_ret
          exact ⟨rfl, rfl⟩
        · have b4 : (r == 4) = false := beq_eq_false_iff_ne.2 h4
          have HR : Hid (over11 r = -1) := by show _ = _; unfold over11; simp [h2, h3, h4, h5]
          go_enter Tryz.func69, Tryz.ntmps69
          go_wp2
          go_ret
          exact ⟨by rw [HR.out]; rfl, rfl⟩
set_option maxHeartbeats 400000 in
theorem right09_any (a b : Int) (w : World) : Calls Tryz.prog 71 #[.agg #[.int .i64 a, .int .i64 b]] w fun e w' => e = .returned (.bool (rightS a b)) ∧ Below w.heap.size w w' := by
  have HB : Hid (Below w.heap.size w (w.alloc (.cells #[.int .i64 a, .int .i64 b] 56))) := (Below.refl _ w).alloc (Nat.le_refl _) _
  by_cases h0 : 0 ≤ a
  · have d0 : decide (0 ≤ a) = true := decide_eq_true h0
    by_cases h1 : a < b
    · have d1 : decide (a < b) = true := decide_eq_true h1
      have HR : Hid (rightS a b = decide (b ≤ 86400000)) := by show _ = _; unfold rightS; rw [d0, d1]; rfl
      go_enter Tryz.func71, Tryz.ntmps71
      go_wp2
      go_ret
      exact ⟨ret_bool HR.out.symm, HB.out⟩
    · have d1 : decide (a < b) = false := decide_eq_false h1
      have HR : Hid (rightS a b = false) := by show _ = _; unfold rightS; rw [d0, d1]; rfl
      go_enter Tryz.func71, Tryz.ntmps71
      go_wp2
      go_ret
      exact ⟨ret_bool HR.out.symm, HB.out⟩
  · have d0 : decide (0 ≤ a) = false := decide_eq_false h0
    have HR : Hid (rightS a b = false) := by show _ = _; unfold rightS; rw [d0]; rfl
    go_enter Tryz.func71, Tryz.ntmps71
    go_wp2
    go_ret
    exact ⟨ret_bool HR.out.symm, HB.out⟩
end Go.Proofs.YtdpllfgnppeneaaGreatDoor
