/-
  The reference's siblings of a note; whether some notes overlap; whether they are ranked.
-/
import Derived.Test.YtdpllfgnppeneaaGreatDoorPlaced
import Derived.Test.YtdpllfgnppeneaaGreatDoorG11
namespace Go.Proofs.YtdpllfgnppeneaaGreatDoor
open Go.RowKit Ru Lay
attribute [local go_sem ↓] Go.wp_at_zero Go.wp_at_succ
set_option linter.unusedVariables false
set_option linter.unusedSimpArgs false

def sibF (l : List Nt) (tier parent : Int) : List Nt := l.filter fun n => decide (n.tier = tier) && decide (n.parent = parent)
theorem sibF_next {l : List Nt} {tier parent : Int} {i : Nat} {x : Nt} (hx : l[i]? = some x) : sibF (l.take (i + 1)) tier parent = sibF (l.take i) tier parent ++ (if x.tier = tier ∧ x.parent = parent then [x] else []) := by
  unfold sibF
  rw [take_at2 hx, List.filter_append, List.filter_cons]
  simp
theorem sibF_len {l : List Nt} {tier parent : Int} : (sibF l tier parent).length ≤ l.length := List.length_filter_le _ _
set_option maxHeartbeats 2000000 in
set_option maxRecDepth 100000 in
theorem siblings_any (d : Dv) (l : List Nt) (tier parent : Int) (w : World) (hl : NotesR w w.heap.size d.na d.nn l) (hn : d.nn ≤ 1000000) :
    Calls Tryz.prog 41 #[docV d, .int .i64 tier, .int .i64 parent] w fun e w' => ∃ v, e = .returned v ∧ OwnR encN 7 58 w' w.heap.size v (sibF l tier parent) ∧ Below w.heap.size w w' := by
  have HL := Lib.hid hl
  have HLN := Lib.hid hl.len
  clear hl
  unfold docV
  obtain ⟨rid, name, len, day, sa, sn, sc, ta, tn, tc, na, nn, nc⟩ := d
  simp only at HL HLN hn ⊢
  go_enter Tryz.func41, Tryz.ntmps41
  go_upto_region 1 with fail
  obtain ⟨W0, hW0⟩ : ∃ W0, (w.alloc (.cells #[.int .i64 rid, .string name, .int .i64 len, .int .i64 day, .slice sa sn sc, .slice ta tn tc, .slice na nn nc] 28)) = W0 := ⟨_, rfl⟩
  have HB0 : Hid (Below w.heap.size w W0) := by rw [← hW0]; exact ((Below.refl _ _).alloc (by simp <;> omega) _)
  have hz0 : W0.heap.size = w.heap.size + 1 := by rw [← hW0]; simp
  have HC0 : Hid (∀ X, Below W0.heap.size W0 X → X.rangeAt (w.heap.size) 0 [.int .i64 rid, .string name, .int .i64 len, .int .i64 day, .slice sa sn sc, .slice ta tn tc, .slice na nn nc]) := fun X hX => by
    refine range_below hX (by omega) fun j v hv => ?_
    rw [← hW0, Nat.zero_add]; rw [World.cell?_alloc_at _ _ _ _ (by simp), ← hv, ← List.getElem?_toArray]; try rfl
  (try rw [hW0])
  clear hW0
  have HK6 : Hid (∀ X, Below (w.heap.size + 1) W0 X → X.cell? ⟨w.heap.size, 6, none⟩ = some (.slice na nn nc)) := fun X hX => HC0.out X (by rw [hz0]; exact hX) 6 _ rfl
  have hown0 := World.ownsRow_made (base := w.heap.size + 1) (e := 58) (size := 7) W0 #[] 0 (by omega) (by unfold maxLen; omega) (by simp)
  rw [hz0] at hown0
  have hown := Lib.hid hown0
  clear hown0
  have HBA : Hid (Below (w.heap.size + 1) W0 (W0.alloc (.cells #[] 58))) := (Below.refl _ _).alloc (by omega) _
  go_wp2_with fail
  go_loopw [7, 8] (fun v7 v8 wr => ∃ i : Nat, i ≤ nn ∧ v8 = .int .i64 i ∧ Hid (OwnR encN 7 58 wr (w.heap.size + 1) v7 (sibF (l.take i) tier parent)) ∧ Hid (Below (w.heap.size + 1) W0 wr)) (fun _ v8 _ => nn - (intOf v8).toNat)
  case atStart => exact ⟨0, Nat.zero_le _, rfl, (by rw [List.take_zero]; exact hown.out), HBA.out⟩
  case round =>
    clear hown HBA
    obtain ⟨i, hi, rfl, HO, HB1⟩ := hrel
    obtain ⟨w0, hw0⟩ : ∃ w0, wr = w0 := ⟨_, rfl⟩
    rw [hw0] at HO HB1 ⊢
    clear hw0
    have HBW : Hid (Below w.heap.size w w0) := HB0.out.trans (HB1.out.mono (by omega))
    have k6 := HK6.out w0 HB1.out
    by_cases hlt : i < nn
    · have hiz : (i : Int) < (nn : Int) := by omega
      have hiA : (0 : Int) ≤ (i : Int) := by omega
      obtain ⟨ad, x, rfl, hab, hx, hcells⟩ := HL.out.at_ hlt
      obtain ⟨q0, q1, q2, q3, q4, q5, q6⟩ := hcells w0 HBW.out
      have HI := Lib.hid hlt
      have HNX := Lib.hid (sibF_next (tier := tier) (parent := parent) hx)
      have hsz := HB1.out.size
      have hlls : (sibF (l.take i) tier parent).length ≤ i := Nat.le_trans sibF_len (by rw [List.length_take]; omega)
      obtain ⟨ll, hlq⟩ : ∃ ll, sibF (l.take i) tier parent = ll := ⟨_, rfl⟩
      rw [hlq] at HO HNX hlls
      have hi1 : i + 1 ≤ nn := hlt
      clear hx hcells hlq
      by_cases ht0 : x.tier = tier
      · have hbt : (x.tier == tier) = true := beq_iff_eq.2 ht0
        have ht1 := Lib.hid ht0
        clear ht0
        by_cases hp0 : x.parent = parent
        · have hbp : (x.parent == parent) = true := beq_iff_eq.2 hp0
          have HNX2 : Hid (sibF (l.take (i + 1)) tier parent = ll ++ [x]) := by show _ = _; rw [HNX.out, if_pos ⟨ht1.out, hp0⟩]
          clear hp0 HNX
          go_wp2_with (at_builtin; refine wpList_appN rfl (.tmp 35) (.tmp 41) 26 rfl (w.heap.size + 1) 58 7 64 (noteV nt0) info_note rfl (by omega) Tryz.underlying26 rfl HO.out rfl rfl (by simp [Value.oneCell']) (by omega) (by omega) (by omega) ?_; rintro v7' w4 hown7 hb7)
          have HO3 : Hid (OwnR encN 7 58 w4 (w.heap.size + 1) v7' (sibF (l.take (i + 1)) tier parent)) := by
            show OwnR _ _ _ _ _ _ _
            rw [HNX2.out]
            exact OwnR.snoc hown7
          have HB3 : Hid (Below (w.heap.size + 1) W0 w4) := HB1.out.trans (hb7.mono (Nat.le_refl _))
          clear HNX2 hown7 hb7
          go_wp2
          go_roundw
          case rel => exact ⟨i + 1, hi1, by go_num, HO3, HB3⟩
          case measure => have := HI.out; simp [intOf]; omega
        · have hbp : (x.parent == parent) = false := beq_eq_false_iff_ne.2 hp0
          have HNX2 : Hid (sibF (l.take (i + 1)) tier parent = ll) := by show _ = _; rw [HNX.out, if_neg fun h => hp0 h.2, List.append_nil]
          clear hp0 HNX
          go_wp2
          go_roundw
          case rel => exact ⟨i + 1, hi1, by go_num, by rw [HNX2.out]; exact HO, HB1⟩
          case measure => have := HI.out; simp [intOf]; omega
      · have hbt : (x.tier == tier) = false := beq_eq_false_iff_ne.2 ht0
        have HNX2 : Hid (sibF (l.take (i + 1)) tier parent = ll) := by show _ = _; rw [HNX.out, if_neg fun h => ht0 h.1, List.append_nil]
        clear ht0 HNX
        go_wp2
        go_roundw
        case rel => exact ⟨i + 1, hi1, by go_num, by rw [HNX2.out]; exact HO, HB1⟩
        case measure => have := HI.out; simp [intOf]; omega
    · obtain rfl : nn = i := by omega
      have hiz : ¬ (nn : Int) < (nn : Int) := by omega
      have HF : Hid (OwnR encN 7 58 w0 w.heap.size u7 (sibF l tier parent)) := by
        have h := HO.out
        rw [List.take_of_length_le (by rw [HLN.out]; exact Nat.le_refl _)] at h
        exact own_base h (by omega)
      go_wp2
      go_ret
      exact ⟨_, rfl, HF.out, HBW.out⟩
/-- A call that answers a bool, of which something holds; it lays new blocks at most. -/
def BoolIf (p : Bool → Prop) (w : World) (e : Ending) (w' : World) : Prop := ∃ b : Bool, e = .returned (.bool b) ∧ p b ∧ Below w.heap.size w w'
theorem BoolIf.of {p : Bool → Prop} {w w' : World} (b : Bool) (h : p b) (hb : Below w.heap.size w w') : BoolIf p w (.returned (.bool b)) w' := ⟨b, rfl, h, hb⟩
/-- No two of some notes have a time in common. -/
def NoOver (l : List Nt) : Prop := ∀ (i k : Nat) (x y : Nt), k < i → l[i]? = some x → l[k]? = some y → ¬ (x.at1 < y.at2 ∧ y.at1 < x.at2)
set_option maxHeartbeats 2000000 in
set_option maxRecDepth 100000 in
theorem overlap_any (A : Option Addr) (n c : Nat) (l : List Nt) (w : World) (hl : NotesR w w.heap.size A n l) (hn : n ≤ 1000000) :
    Calls Tryz.prog 43 #[.slice A n c] w (BoolIf (fun b => b = false → NoOver l) w) := by
  have HL := Lib.hid hl
  have HLN := Lib.hid hl.len
  clear hl
  go_enter Tryz.func43, Tryz.ntmps43
  go_wp2_with fail
  go_loopw [3] (fun v3 wr => ∃ i : Nat, i ≤ n ∧ v3 = .int .i64 i ∧ Hid (∀ (j k : Nat) (x y : Nt), j < i → k < j → l[j]? = some x → l[k]? = some y → ¬ (x.at1 < y.at2 ∧ y.at1 < x.at2)) ∧ Hid (Below w.heap.size w wr)) (fun v3 _ => n - (intOf v3).toNat)
  case atStart => exact ⟨0, Nat.zero_le _, rfl, fun j k x y h => by omega, Below.refl _ _⟩
  case round =>
    obtain ⟨i, hi, rfl, HP, HB0⟩ := hrel
    obtain ⟨w0, hw0⟩ : ∃ w0, wr = w0 := ⟨_, rfl⟩
    rw [hw0] at HB0 ⊢
    clear hw0
    by_cases hlt : i < n
    · have hiz : (i : Int) < (n : Int) := by omega
      have hiA : (0 : Int) ≤ (i : Int) := by omega
      have HI := Lib.hid hlt
      go_wp2_with fail
      go_loopw [4] (fun v4 wr => ∃ k : Nat, k ≤ i ∧ v4 = .int .i64 k ∧ Hid (∀ (j : Nat) (x y : Nt), j < k → l[i]? = some x → l[j]? = some y → ¬ (x.at1 < y.at2 ∧ y.at1 < x.at2)) ∧ Hid (Below w.heap.size w wr)) (fun v4 _ => i - (intOf v4).toNat)
      case atStart => exact ⟨0, Nat.zero_le _, rfl, fun j x y h => by omega, HB0⟩
      case round =>
        clear HB0
        obtain ⟨k, hk, rfl, HQ, HB0⟩ := hrel
        obtain ⟨w1, hw1⟩ : ∃ w1, wr = w1 := ⟨_, rfl⟩
        rw [hw1] at HB0 ⊢
        clear hw1
        by_cases hlk : k < i
        · have hkz : (k : Int) < (i : Int) := by omega
          have hkn : (k : Int) < (n : Int) := by omega
          have hkA : (0 : Int) ≤ (k : Int) := by omega
          have HKI := Lib.hid hlk
          obtain ⟨ad, x, e1, hab, hx, hcells⟩ := HL.out.at_ HI.out
          obtain ⟨bd, y, e2, hbb, hy, hcells2⟩ := HL.out.at_ (k := k) (by have := HI.out; omega)
          rw [e1] at e2
          cases e1
          cases e2
          obtain ⟨q0, q1, q2, q3, q4, q5, q6⟩ := hcells w1 HB0.out
          obtain ⟨r0, r1, r2, r3, r4, r5, r6⟩ := hcells2 w1 HB0.out
          have HX := Lib.hid hx
          have HYY := Lib.hid hy
          clear hx hy hcells hcells2
          have HNX : Hid (¬ (x.at1 < y.at2 ∧ y.at1 < x.at2) → ∀ (j : Nat) (x y : Nt), j < k + 1 → l[i]? = some x → l[j]? = some y → ¬ (x.at1 < y.at2 ∧ y.at1 < x.at2)) := fun h j x' y' hj hx' hy' => by
            by_cases e : j = k
            · subst e
              rw [HX.out] at hx'
              rw [HYY.out] at hy'
              cases hx'
              cases hy'
              exact h
            · exact HQ.out j x' y' (by omega) hx' hy'
          by_cases h1 : x.at1 < y.at2
          · have d1 : decide (x.at1 < y.at2) = true := decide_eq_true h1
            by_cases h2 : y.at1 < x.at2
            · have d2 : decide (y.at1 < x.at2) = true := decide_eq_true h2
              go_wp2_with fail
              go_quiet (fail)
              have HB2 : Hid (Below w.heap.size w (w1.drewN nq)) := below_drewN HB0.out nq
              go_wp2
              go_ret
              exact BoolIf.of true (fun h => by cases h) HB2.out
            · have d2 : decide (y.at1 < x.at2) = false := decide_eq_false h2
              have HQ2 := Lib.hid (HNX.out fun h => h2 h.2)
              clear HNX h1 h2
              go_wp2_with fail
              go_quiet (fail)
              have HB2 : Hid (Below w.heap.size w (w1.drewN nq)) := below_drewN HB0.out nq
              clear q0 q1 q2 q3 q4 q5 q6 r0 r1 r2 r3 r4 r5 r6 d1 d2
              go_wp2
              go_roundw
              case rel => exact ⟨k + 1, HKI.out, by go_num, HQ2, HB2⟩
              case measure => have := HKI.out; simp [intOf]; omega
          · have d1 : decide (x.at1 < y.at2) = false := decide_eq_false h1
            have HQ2 := Lib.hid (HNX.out fun h => h1 h.1)
            clear HNX h1
            go_wp2_with fail
            go_quiet (fail)
            have HB2 : Hid (Below w.heap.size w (w1.drewN nq)) := below_drewN HB0.out nq
            clear q0 q1 q2 q3 q4 q5 q6 r0 r1 r2 r3 r4 r5 r6 d1
            go_wp2
            go_roundw
            case rel => exact ⟨k + 1, HKI.out, by go_num, HQ2, HB2⟩
            case measure => have := HKI.out; simp [intOf]; omega
        · obtain rfl : i = k := by omega
          have hkz : ¬ (i : Int) < (i : Int) := by omega
          have HP2 : Hid (∀ (j k : Nat) (x y : Nt), j < i + 1 → k < j → l[j]? = some x → l[k]? = some y → ¬ (x.at1 < y.at2 ∧ y.at1 < x.at2)) := fun j k x y hj hkj hx hy => by
            by_cases e : j = i
            · subst e; exact HQ.out k x y hkj hx hy
            · exact HP.out j k x y (by omega) hkj hx hy
          go_wp2
          go_roundw
          case rel => exact ⟨i + 1, HI.out, by go_num, HP2, HB0⟩
          case measure => have := HI.out; simp [intOf]; omega
    · obtain rfl : n = i := by omega
      have hiz : ¬ (n : Int) < (n : Int) := by omega
      have HF : Hid (NoOver l) := fun i k x y hk hx hy => HP.out i k x y (by rw [← HLN.out]; exact (List.getElem?_eq_some_iff.1 hx).1) hk hx hy
      go_wp2
      go_ret
      exact BoolIf.of false (fun _ => HF.out) HB0.out
/-- The ranks of some notes are 0, 1, and so on. -/
def Ranked (l : List Nt) : Prop := ∀ k, k < l.length → ∃ (i : Nat) (x : Nt), l[i]? = some x ∧ x.rank = (k : Int)
set_option maxHeartbeats 2000000 in
set_option maxRecDepth 100000 in
theorem ranked_any (A : Option Addr) (n c : Nat) (l : List Nt) (w : World) (hl : NotesR w w.heap.size A n l) (hn : n ≤ 1000000) :
    Calls Tryz.prog 46 #[.slice A n c] w (BoolIf (fun b => b = true → Ranked l) w) := by
  have HL := Lib.hid hl
  have HLN := Lib.hid hl.len
  have HBR : Hid (Below w.heap.size w w) := Below.refl _ _
  clear hl
  go_enter Tryz.func46, Tryz.ntmps46
  go_wp2_with fail
  go_loop [3, 4, 5] (fun v3 v4 v5 => ∃ i : Nat, i ≤ n ∧ v3 = .int .i64 i ∧ Hid (∀ k : Nat, k < i → ∃ (i : Nat) (x : Nt), l[i]? = some x ∧ x.rank = (k : Int))) (fun v3 _ _ => n - (intOf v3).toNat)
  case atStart => exact ⟨0, Nat.zero_le _, rfl, fun k h => by omega⟩
  case round =>
    obtain ⟨k, hk, rfl, HP⟩ := hrel
    by_cases hlt : k < n
    · have hkz : (k : Int) < (n : Int) := by omega
      have hkA : (0 : Int) ≤ (k : Int) := by omega
      have HI := Lib.hid hlt
      go_wp2_with fail
      go_loop [4, 5] (fun v4 v5 => ∃ (i : Nat) (fb : Bool), i ≤ n ∧ v5 = .int .i64 i ∧ v4 = .bool fb ∧ Hid (fb = true → ∃ (i : Nat) (x : Nt), l[i]? = some x ∧ x.rank = (k : Int))) (fun _ v5 => n - (intOf v5).toNat)
      case atStart => exact ⟨0, false, Nat.zero_le _, rfl, rfl, fun h => by cases h⟩
      case round =>
        obtain ⟨i, fb, hi, rfl, rfl, HF⟩ := hrel
        by_cases hli : i < n
        · have hiz : (i : Int) < (n : Int) := by omega
          have hiA : (0 : Int) ≤ (i : Int) := by omega
          have HII := Lib.hid hli
          obtain ⟨ad, x, rfl, hab, hx, hcells⟩ := HL.out.at_ hli
          obtain ⟨q0, q1, q2, q3, q4, q5, q6⟩ := hcells w (Below.refl _ _)
          have HX := Lib.hid hx
          clear hx hcells
          cases fb with
          | true =>
            go_wp2
            go_round
            case rel => exact ⟨i + 1, true, HII.out, by go_num, rfl, HF⟩
            case measure => have := HII.out; simp [intOf]; omega
          | false =>
            by_cases he : x.rank = (k : Int)
            · have hb : (x.rank == (k : Int)) = true := beq_iff_eq.2 he
              have HF2 : Hid (true = true → ∃ (i : Nat) (x : Nt), l[i]? = some x ∧ x.rank = (k : Int)) := fun _ => ⟨i, x, HX.out, he⟩
              clear he
              go_wp2
              go_round
              case rel => exact ⟨i + 1, true, HII.out, by go_num, rfl, HF2⟩
              case measure => have := HII.out; simp [intOf]; omega
            · have hb : (x.rank == (k : Int)) = false := beq_eq_false_iff_ne.2 he
              clear he
              go_wp2
              go_round
              case rel => exact ⟨i + 1, false, HII.out, by go_num, rfl, fun h => by cases h⟩
              case measure => have := HII.out; simp [intOf]; omega
        · obtain rfl : n = i := by omega
          have hiz : ¬ (n : Int) < (n : Int) := by omega
          cases fb with
          | true =>
            have HP2 : Hid (∀ j : Nat, j < k + 1 → ∃ (i : Nat) (x : Nt), l[i]? = some x ∧ x.rank = (j : Int)) := fun j hj => by
              by_cases e : j = k
              · subst e; exact HF.out rfl
              · exact HP.out j (by omega)
            go_wp2
            go_round
            case rel => exact ⟨k + 1, HI.out, by go_num, HP2⟩
            case measure => have := HI.out; simp [intOf]; omega
          | false =>
            go_wp2
            go_ret
            exact BoolIf.of false (fun h => by cases h) HBR.out
    · obtain rfl : n = k := by omega
      have hkz : ¬ (n : Int) < (n : Int) := by omega
      have HF : Hid (Ranked l) := fun k hk => HP.out k (by rw [← HLN.out]; exact hk)
      go_wp2
      go_ret
      exact BoolIf.of true (fun _ => HF.out) HBR.out
end Go.Proofs.YtdpllfgnppeneaaGreatDoor
