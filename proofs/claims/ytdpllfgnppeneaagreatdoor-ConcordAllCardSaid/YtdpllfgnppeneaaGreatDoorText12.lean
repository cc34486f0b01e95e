/-
  The reference's check of a text; the note of a number; two spans; the order of a tier: small functions of layer 12.
-/
import Derived.Test.YtdpllfgnppeneaaGreatDoorTier2
import Derived.Test.YtdpllfgnppeneaaGreatDoorG06
import Derived.Laws.StructEq
namespace Go.Proofs.YtdpllfgnppeneaaGreatDoor
open Go.RowKit Ru Lay
attribute [local go_sem ↓] Go.wp_at_zero Go.wp_at_succ
set_option linter.unusedVariables false
set_option linter.unusedSimpArgs false

set_option maxHeartbeats 2000000 in
set_option maxRecDepth 100000 in
theorem text12_any (s : ByteArray) (w : World) :
    Calls Tryz.prog 39 #[.string s] w fun e w' => ∃ r : Int, e = .returned (.int .i64 r) ∧ Below w.heap.size w w' := by
  by_cases h200 : s.size ≤ 200
  · have hd : ¬ (200 : Int) < (s.size : Int) := by omega
    have HP := Lib.hid (points02_any s w (by omega))
    obtain ⟨o, ho⟩ : ∃ o, points s.data.toList = o := ⟨_, rfl⟩
    rw [ho] at HP
    clear ho
    go_enter Tryz.func39, Tryz.ntmps39
    go_wp2_with fail
    refine HP.out.mono ?_
    intro e w1 hpp
    obtain ⟨A1, n1, c1, rfl, hir, hn1, hb⟩ := hpp.val
    have HIR := Lib.hid hir
    have HB1 : Hid (Below w.heap.size w w1) := hb
    clear hpp hb hir HP
    cases o with
    | none =>
      go_wp2
      go_ret
      first | exact ⟨3, rfl, HB1.out⟩ | exact ⟨⟨3, rfl⟩, HB1.out⟩
    | some d =>
      go_wp2_with fail
      go_loop [5] (fun v5 => ∃ i : Nat, i ≤ n1 ∧ v5 = .int .i64 i) (fun v5 => n1 - (intOf v5).toNat)
      case atStart => exact ⟨0, Nat.zero_le _, rfl⟩
      case round =>
        obtain ⟨i, hi, rfl⟩ := hrel
        by_cases hlt : i < n1
        · have hiz : (i : Int) < (n1 : Int) := by omega
          have hiA : (0 : Int) ≤ (i : Int) := by omega
          obtain ⟨ad, x, rfl, hab, hx, hc⟩ := HIR.out.at_ hlt
          clear hx
          by_cases h32 : x < 32
          · have d32 : decide (x < 32) = true := decide_eq_true h32
            go_wp2
            go_ret
            first | exact ⟨3, rfl, HB1.out⟩ | exact ⟨⟨3, rfl⟩, HB1.out⟩
          · have d32 : decide (x < 32) = false := decide_eq_false h32
            cases hbe : (x == 127) with
            | true =>
              go_wp2
              go_ret
              first | exact ⟨3, rfl, HB1.out⟩ | exact ⟨⟨3, rfl⟩, HB1.out⟩
            | false =>
              go_wp2
              go_round
              case rel => exact ⟨i + 1, by omega, by go_num⟩
              case measure => simp [intOf]; omega
        · obtain rfl : n1 = i := by omega
          have hiz : ¬ (n1 : Int) < (n1 : Int) := by omega
          go_wp2
          go_ret
          first | exact ⟨0, rfl, HB1.out⟩ | exact ⟨⟨0, rfl⟩, HB1.out⟩
  · have hd : (200 : Int) < (s.size : Int) := by omega
    have HB0 : Hid (Below w.heap.size w w) := Below.refl _ _
    go_enter Tryz.func39, Tryz.ntmps39
    go_wp2
    go_ret
    exact ⟨5, rfl, HB0.out⟩
set_option maxHeartbeats 1000000 in
set_option maxRecDepth 100000 in
theorem refGet_any (d : Dv) (l : List Nt) (id : Int) (w : World) (hl : NotesR w w.heap.size d.na d.nn l) (hn : d.nn ≤ 9223372036854775807) :
    Calls Tryz.prog 23 #[docV d, .int .i64 id] w fun e w' => e = .returned (getV (getN l id)) ∧ Below w.heap.size w w' := by
  have HL := Lib.hid hl
  have HLN := Lib.hid hl.len
  clear hl
  unfold docV
  obtain ⟨rid, name, len, day, sa, sn, sc, ta, tn, tc, na, nn, nc⟩ := d
  simp only at HL HLN hn ⊢
  go_enter Tryz.func23, Tryz.ntmps23
  go_wp2_with fail
  obtain ⟨W0, hW0⟩ : ∃ W0, (w.alloc (.cells #[.int .i64 rid, .string name, .int .i64 len, .int .i64 day, .slice sa sn sc, .slice ta tn tc, .slice na nn nc] 28)).alloc (.cells #[.int .i64 0, .int .i64 0, .int .i64 0, .int .i64 0, .int .i64 0, .int .i64 0, .string ⟨#[]⟩] 58) = W0 := ⟨_, rfl⟩
  have HB : Hid (Below w.heap.size w W0) := by rw [← hW0]; exact ((Below.refl _ w).alloc (Nat.le_refl _) _).alloc (by simp) _
  have hz0 : W0.heap.size = w.heap.size + 1 + 1 := by rw [← hW0]; simp
  have k6 : W0.cell? ⟨w.heap.size, 6, none⟩ = some (.slice na nn nc) := by rw [← hW0, World.cell?_alloc_lt _ _ _ (by simp), World.cell?_alloc_new]; rfl
  have HTH : Hid (W0.there (w.heap.size + 1) 0 7) := by
    have h := there_new (w.alloc (.cells #[.int .i64 rid, .string name, .int .i64 len, .int .i64 day, .slice sa sn sc, .slice ta tn tc, .slice na nn nc] 28)) #[.int .i64 0, .int .i64 0, .int .i64 0, .int .i64 0, .int .i64 0, .int .i64 0, .string ⟨#[]⟩] 58
    rw [hW0] at h
    show W0.there _ _ _
    simpa using h
  have HRG : Hid (W0.rangeAt (w.heap.size + 1) 0 (encN nt0)) := fun j v hv => by
    rw [← hW0, Nat.zero_add]
    have h := World.cell?_alloc_new (w.alloc (.cells #[.int .i64 rid, .string name, .int .i64 len, .int .i64 day, .slice sa sn sc, .slice ta tn tc, .slice na nn nc] 28)) #[.int .i64 0, .int .i64 0, .int .i64 0, .int .i64 0, .int .i64 0, .int .i64 0, .string ⟨#[]⟩] 58 j
    rw [show (w.alloc (.cells #[.int .i64 rid, .string name, .int .i64 len, .int .i64 day, .slice sa sn sc, .slice ta tn tc, .slice na nn nc] 28)).heap.size = w.heap.size + 1 by simp] at h
    rw [h, ← hv, ← List.getElem?_toArray]
    rfl
  (try rw [hW0])
  clear hW0
  go_loop [6] (fun v6 => ∃ i : Nat, i ≤ nn ∧ v6 = .int .i64 i ∧ Hid (∀ j y, j < i → l[j]? = some y → y.nid ≠ id)) (fun v6 => nn - (intOf v6).toNat)
  case atStart => exact ⟨0, Nat.zero_le _, rfl, fun j y h => by omega⟩
  case round =>
    obtain ⟨i, hi, rfl, HP⟩ := hrel
    by_cases hlt : i < nn
    · have hiz : (i : Int) < (nn : Int) := by omega
      have hiA : (0 : Int) ≤ (i : Int) := by omega
      obtain ⟨ad, x, rfl, hab, hx, hcells⟩ := HL.out.at_ hlt
      obtain ⟨q0, q1, q2, q3, q4, q5, q6⟩ := hcells W0 HB.out
      have HX := Lib.hid hx
      have HI := Lib.hid hlt
      clear hx hcells
      by_cases he : x.nid = id
      · have HG : Hid (getN l id = some x) := getN_here HP.out HX.out he
        subst he
        have hlt1 : w.heap.size + 1 < W0.heap.size := by omega
        have c0 : W0.cell? ⟨w.heap.size + 1, 0, none⟩ = some (.int .i64 0) := HRG.out 0 (.int .i64 0) rfl
        have f0 : W0.frozen? ⟨w.heap.size + 1, 0, none⟩ = false := (HTH.out 0 (by omega)).2
        have c1 : W0.cell? ⟨w.heap.size + 1, 1, none⟩ = some (.int .i64 0) := HRG.out 1 (.int .i64 0) rfl
        have f1 : W0.frozen? ⟨w.heap.size + 1, 1, none⟩ = false := (HTH.out 1 (by omega)).2
        have c2 : W0.cell? ⟨w.heap.size + 1, 2, none⟩ = some (.int .i64 0) := HRG.out 2 (.int .i64 0) rfl
        have f2 : W0.frozen? ⟨w.heap.size + 1, 2, none⟩ = false := (HTH.out 2 (by omega)).2
        have c3 : W0.cell? ⟨w.heap.size + 1, 3, none⟩ = some (.int .i64 0) := HRG.out 3 (.int .i64 0) rfl
        have f3 : W0.frozen? ⟨w.heap.size + 1, 3, none⟩ = false := (HTH.out 3 (by omega)).2
        have c4 : W0.cell? ⟨w.heap.size + 1, 4, none⟩ = some (.int .i64 0) := HRG.out 4 (.int .i64 0) rfl
        have f4 : W0.frozen? ⟨w.heap.size + 1, 4, none⟩ = false := (HTH.out 4 (by omega)).2
        have c5 : W0.cell? ⟨w.heap.size + 1, 5, none⟩ = some (.int .i64 0) := HRG.out 5 (.int .i64 0) rfl
        have f5 : W0.frozen? ⟨w.heap.size + 1, 5, none⟩ = false := (HTH.out 5 (by omega)).2
        have c6 : W0.cell? ⟨w.heap.size + 1, 6, none⟩ = some (.string ⟨#[]⟩) := HRG.out 6 (.string ⟨#[]⟩) rfl
        have f6 : W0.frozen? ⟨w.heap.size + 1, 6, none⟩ = false := (HTH.out 6 (by omega)).2
        go_wp2
        (try simp only [Exit.inBlock, Exit.then])
        refine bodyPost_ret (v := getV (some x)) ?_ rfl ⟨by rw [HG.out], ?_⟩
        · show _ = Result.ok (Value.tuple #[.agg (encN x).toArray, .bool true]) _
          refine results_cell_of rfl _ _ (w.heap.size + 1) (encN x) _ _ ?_ ?_ ?_ Tryz.underlying58 rfl (by kernel_rfl)
          · rfl
          · rfl
          · exact World.rangeAt_setCells_same W0 (w.heap.size + 1) 0 [.int .i64 x.nid, .int .i64 x.tier, .int .i64 x.parent, .int .i64 x.at1, .int .i64 x.at2, .int .i64 x.rank, .string x.text] HTH.out
        · exact below_set (w := W0) (b := w.heap.size + 1) (o := 0) (vs := [.int .i64 x.nid, .int .i64 x.tier, .int .i64 x.parent, .int .i64 x.at1, .int .i64 x.at2, .int .i64 x.rank, .string x.text]) HB.out (by omega) (by omega)
      · have hbe : (x.nid == id) = false := beq_eq_false_iff_ne.2 he
        have HP2 := Lib.hid (pre_step HP.out HX.out he)
        go_wp2
        go_round
        case rel => exact ⟨i + 1, HI.out, by go_num, HP2⟩
        case measure => have := HI.out; simp [intOf]; omega
    · obtain rfl : nn = i := by omega
      have hiz : ¬ (nn : Int) < (nn : Int) := by omega
      have HG : Hid (getN l id = none) := getN_none fun j y hj => HP.out j y (by rw [← HLN.out]; exact hj)
      have hlt1 : w.heap.size + 1 < W0.heap.size := by omega
      have c0 : W0.cell? ⟨w.heap.size + 1, 0, none⟩ = some (.int .i64 0) := HRG.out 0 (.int .i64 0) rfl
      have f0 : W0.frozen? ⟨w.heap.size + 1, 0, none⟩ = false := (HTH.out 0 (by omega)).2
      have c1 : W0.cell? ⟨w.heap.size + 1, 1, none⟩ = some (.int .i64 0) := HRG.out 1 (.int .i64 0) rfl
      have f1 : W0.frozen? ⟨w.heap.size + 1, 1, none⟩ = false := (HTH.out 1 (by omega)).2
      have c2 : W0.cell? ⟨w.heap.size + 1, 2, none⟩ = some (.int .i64 0) := HRG.out 2 (.int .i64 0) rfl
      have f2 : W0.frozen? ⟨w.heap.size + 1, 2, none⟩ = false := (HTH.out 2 (by omega)).2
      have c3 : W0.cell? ⟨w.heap.size + 1, 3, none⟩ = some (.int .i64 0) := HRG.out 3 (.int .i64 0) rfl
      have f3 : W0.frozen? ⟨w.heap.size + 1, 3, none⟩ = false := (HTH.out 3 (by omega)).2
      have c4 : W0.cell? ⟨w.heap.size + 1, 4, none⟩ = some (.int .i64 0) := HRG.out 4 (.int .i64 0) rfl
      have f4 : W0.frozen? ⟨w.heap.size + 1, 4, none⟩ = false := (HTH.out 4 (by omega)).2
      have c5 : W0.cell? ⟨w.heap.size + 1, 5, none⟩ = some (.int .i64 0) := HRG.out 5 (.int .i64 0) rfl
      have f5 : W0.frozen? ⟨w.heap.size + 1, 5, none⟩ = false := (HTH.out 5 (by omega)).2
      have c6 : W0.cell? ⟨w.heap.size + 1, 6, none⟩ = some (.string ⟨#[]⟩) := HRG.out 6 (.string ⟨#[]⟩) rfl
      have f6 : W0.frozen? ⟨w.heap.size + 1, 6, none⟩ = false := (HTH.out 6 (by omega)).2
      go_wp2
      (try simp only [Exit.inBlock, Exit.then])
      refine bodyPost_ret (v := getV none) ?_ rfl ⟨by rw [HG.out], ?_⟩
      · show _ = Result.ok (Value.tuple #[.agg (encN nt0).toArray, .bool false]) _
        refine results_cell_of rfl _ _ (w.heap.size + 1) (encN nt0) _ _ ?_ ?_ ?_ Tryz.underlying58 rfl (by kernel_rfl)
        · rfl
        · rfl
        · exact World.rangeAt_setCells_same W0 (w.heap.size + 1) 0 [.int .i64 0, .int .i64 0, .int .i64 0, .int .i64 0, .int .i64 0, .int .i64 0, .string ⟨#[]⟩] HTH.out
      · exact below_set (w := W0) (b := w.heap.size + 1) (o := 0) (vs := [.int .i64 0, .int .i64 0, .int .i64 0, .int .i64 0, .int .i64 0, .int .i64 0, .string ⟨#[]⟩]) HB.out (by omega) (by omega)
theorem eq_span (a b : Int) (w : World) : (Op.equalIn 10000 56 (.agg #[.int .i64 a, .int .i64 b]) (.agg #[.int .i64 0, .int .i64 0])).run Tryz.prog w = .ok ((a == 0) && (b == 0)) w := by
  have h1 : ∀ (W : World) (x y : Int), (Op.equalIn 9999 3 (.int .i64 x) (.int .i64 y)).run Tryz.prog W = .ok (x == y) W := fun W x y => by
    rw [run_equalIn_int W 9998 _ _ .i64 x y Tryz.underlying3]
  rw [run_equalIn_struct w 9999 _ _ _ (by simp only [Program.fieldsOf, Tryz.underlying56]) (by kernel_rfl)]
  cases ha : (a == 0) <;> cases hb : (b == 0) <;> simp [Program.fieldsOf, Tryz.underlying56, Op.eqFields, part, h1, Tryz.isAgg3, Tryz.sizeOf3, ha, hb]
end Go.Proofs.YtdpllfgnppeneaaGreatDoor
