import Derived.Test.YthcabnfcgjnlnaaGreatDoorRo02
import Derived.Laws.StructEq
/-
  The reference's check of a text; the note of a number; two spans; the order of a tier: small functions of layer 12.
-/
namespace Go.Proofs.YthcabnfcgjnlnaaGreatDoor
open Go.RowKit Ru Lay
attribute [local go_sem ↓] Go.wp_at_zero Go.wp_at_succ
set_option linter.unusedVariables false
set_option linter.unusedSimpArgs false

set_option maxHeartbeats 2000000 in
set_option maxRecDepth 100000 in
theorem text12_any (s : ByteArray) (w : World) :
    Calls Tryz.prog 82 #[.string s] w fun e w' => ∃ r : Int, e = .returned (.int .i64 r) ∧ (r = 0 → s.size ≤ 200) ∧ Below w.heap.size w w' := by
  by_cases h200 : s.size ≤ 200
  · have hd : ¬ (200 : Int) < (s.size : Int) := by omega
    have H200 := Lib.hid h200
    have HP := Lib.hid (points02_any s w (by omega))
    obtain ⟨o, ho⟩ : ∃ o, points s.data.toList = o := ⟨_, rfl⟩
    rw [ho] at HP
    clear ho
    go_enter Tryz.func82, Tryz.ntmps82
    go_wp2_with fail
    refine HP.out.mono ?_
    intro e w1 hpp
    obtain ⟨A1, n1, c1, rfl, hir, hn1, hb⟩ := hpp.val
    have HIR := Lib.hid hir
    have HB1 : Hid (Below w.heap.size w w1) := hb
    clear hpp hb hir HP
    cases o with
    | none =>
      go_wp2
      go_ret
      first | exact ⟨3, rfl, fun _ => H200.out, HB1.out⟩ | exact ⟨⟨3, rfl⟩, HB1.out⟩ | exact ⟨3, rfl, HB1.out⟩
    | some d =>
      go_wp2_with fail
      go_loop [5] (fun v5 => ∃ i : Nat, i ≤ n1 ∧ v5 = .int .i64 i) (fun v5 => n1 - (intOf v5).toNat)
      case atStart => exact ⟨0, Nat.zero_le _, rfl⟩
      case round =>
        obtain ⟨i, hi, rfl⟩ := hrel
        by_cases hlt : i < n1
        · have hiz : (i : Int) < (n1 : Int) := by omega
          have hiA : (0 : Int) ≤ (i : Int) := by omega
          obtain ⟨ad, x, rfl, hab, hx, hc⟩ := HIR.out.at_ hlt
          clear hx
          by_cases h32 : x < 32
          · have d32 : decide (x < 32) = true := decide_eq_true h32
            go_wp2
            go_ret
            first | exact ⟨3, rfl, fun _ => H200.out, HB1.out⟩ | exact ⟨⟨3, rfl⟩, HB1.out⟩ | exact ⟨3, rfl, HB1.out⟩
          · have d32 : decide (x < 32) = false := decide_eq_false h32
            cases hbe : (x == 127) with
            | true =>
              go_wp2
              go_ret
              first | exact ⟨3, rfl, fun _ => H200.out, HB1.out⟩ | exact ⟨⟨3, rfl⟩, HB1.out⟩ | exact ⟨3, rfl, HB1.out⟩
            | false =>
              go_wp2
              go_round
              case rel => exact ⟨i + 1, by omega, by go_num⟩
              case measure => simp [intOf]; omega
        · obtain rfl : n1 = i := by omega
          have hiz : ¬ (n1 : Int) < (n1 : Int) := by omega
          go_wp2
          go_ret
          first | exact ⟨0, rfl, fun _ => H200.out, HB1.out⟩ | exact ⟨⟨0, rfl⟩, HB1.out⟩ | exact ⟨0, rfl, HB1.out⟩
  · have hd : (200 : Int) < (s.size : Int) := by omega
    have HB0 : Hid (Below w.heap.size w w) := Below.refl _ _
    go_enter Tryz.func82, Tryz.ntmps82
    go_wp2
    go_ret
    exact ⟨5, rfl, fun h => absurd h (by decide), HB0.out⟩
set_option maxHeartbeats 1000000 in
set_option maxRecDepth 100000 in
theorem refGet_any (d : Dv) (l : List Nt) (id : Int) (w : World) (hl : NotesR w w.heap.size d.na d.nn l) (hn : d.nn ≤ 9223372036854775807) :
    Calls Tryz.prog 27 #[docV d, .int .i64 id] w fun e w' => e = .returned (getV (getN l id)) ∧ Below w.heap.size w w' := by
  have HL := Lib.hid hl
  have HLN := Lib.hid hl.len
  clear hl
  unfold docV
  obtain ⟨rid, name, len, day, sa, sn, sc, ta, tn, tc, na, nn, nc⟩ := d
  simp only at HL HLN hn ⊢
  go_enter Tryz.func27, Tryz.ntmps27
  go_wp2_with fail
  obtain ⟨W0, hW0⟩ : ∃ W0, (w.alloc (.cells #[.int .i64 rid, .string name, .int .i64 len, .int .i64 day, .slice sa sn sc, .slice ta tn tc, .slice na nn nc] 38)).alloc (.cells #[.int .i64 0, .int .i64 0, .int .i64 0, .int .i64 0, .int .i64 0, .int .i64 0, .string ⟨#[]⟩] 58) = W0 := ⟨_, rfl⟩
  have HB : Hid (Below w.heap.size w W0) := by rw [← hW0]; exact ((Below.refl _ w).alloc (Nat.le_refl _) _).alloc (by simp) _
  have hz0 : W0.heap.size = w.heap.size + 1 + 1 := by rw [← hW0]; simp
  have k6 : W0.cell? ⟨w.heap.size, 6, none⟩ = some (.slice na nn nc) := by rw [← hW0, World.cell?_alloc_lt _ _ _ (by simp), World.cell?_alloc_new]; rfl
  have HTH : Hid (W0.there (w.heap.size + 1) 0 7) := by
    have h := there_new (w.alloc (.cells #[.int .i64 rid, .string name, .int .i64 len, .int .i64 day, .slice sa sn sc, .slice ta tn tc, .slice na nn nc] 38)) #[.int .i64 0, .int .i64 0, .int .i64 0, .int .i64 0, .int .i64 0, .int .i64 0, .string ⟨#[]⟩] 58
    rw [hW0] at h
    show W0.there _ _ _
    simpa using h
  have HRG : Hid (W0.rangeAt (w.heap.size + 1) 0 (encN nt0)) := fun j v hv => by
    rw [← hW0, Nat.zero_add]
    have h := World.cell?_alloc_new (w.alloc (.cells #[.int .i64 rid, .string name, .int .i64 len, .int .i64 day, .slice sa sn sc, .slice ta tn tc, .slice na nn nc] 38)) #[.int .i64 0, .int .i64 0, .int .i64 0, .int .i64 0, .int .i64 0, .int .i64 0, .string ⟨#[]⟩] 58 j
    rw [show (w.alloc (.cells #[.int .i64 rid, .string name, .int .i64 len, .int .i64 day, .slice sa sn sc, .slice ta tn tc, .slice na nn nc] 38)).heap.size = w.heap.size + 1 by simp] at h
    rw [h, ← hv, ← List.getElem?_toArray]
    rfl
  (try rw [hW0])
  clear hW0
  go_loop [6] (fun v6 => ∃ i : Nat, i ≤ nn ∧ v6 = .int .i64 i ∧ Hid (∀ j y, j < i → l[j]? = some y → y.nid ≠ id)) (fun v6 => nn - (intOf v6).toNat)
  case atStart => exact ⟨0, Nat.zero_le _, rfl, fun j y h => by omega⟩
  case round =>
    obtain ⟨i, hi, rfl, HP⟩ := hrel
    by_cases hlt : i < nn
    · have hiz : (i : Int) < (nn : Int) := by omega
      have hiA : (0 : Int) ≤ (i : Int) := by omega
      obtain ⟨ad, x, rfl, hab, hx, hcells⟩ := HL.out.at_ hlt
      obtain ⟨q0, q1, q2, q3, q4, q5, q6⟩ := hcells W0 HB.out
      have HX := Lib.hid hx
      have HI := Lib.hid hlt
      clear hx hcells
      by_cases he : x.nid = id
      · have HG : Hid (getN l id = some x) := getN_here HP.out HX.out he
        subst he
        have hlt1 : w.heap.size + 1 < W0.heap.size := by omega
        have c0 : W0.cell? ⟨w.heap.size + 1, 0, none⟩ = some (.int .i64 0) := HRG.out 0 (.int .i64 0) rfl
        have f0 : W0.frozen? ⟨w.heap.size + 1, 0, none⟩ = false := (HTH.out 0 (by omega)).2
        have c1 : W0.cell? ⟨w.heap.size + 1, 1, none⟩ = some (.int .i64 0) := HRG.out 1 (.int .i64 0) rfl
        have f1 : W0.frozen? ⟨w.heap.size + 1, 1, none⟩ = false := (HTH.out 1 (by omega)).2
        have c2 : W0.cell? ⟨w.heap.size + 1, 2, none⟩ = some (.int .i64 0) := HRG.out 2 (.int .i64 0) rfl
        have f2 : W0.frozen? ⟨w.heap.size + 1, 2, none⟩ = false := (HTH.out 2 (by omega)).2
        have c3 : W0.cell? ⟨w.heap.size + 1, 3, none⟩ = some (.int .i64 0) := HRG.out 3 (.int .i64 0) rfl
        have f3 : W0.frozen? ⟨w.heap.size + 1, 3, none⟩ = false := (HTH.out 3 (by omega)).2
        have c4 : W0.cell? ⟨w.heap.size + 1, 4, none⟩ = some (.int .i64 0) := HRG.out 4 (.int .i64 0) rfl
        have f4 : W0.frozen? ⟨w.heap.size + 1, 4, none⟩ = false := (HTH.out 4 (by omega)).2
        have c5 : W0.cell? ⟨w.heap.size + 1, 5, none⟩ = some (.int .i64 0) := HRG.out 5 (.int .i64 0) rfl
        have f5 : W0.frozen? ⟨w.heap.size + 1, 5, none⟩ = false := (HTH.out 5 (by omega)).2
        have c6 : W0.cell? ⟨w.heap.size + 1, 6, none⟩ = some (.string ⟨#[]⟩) := HRG.out 6 (.string ⟨#[]⟩) rfl
        have f6 : W0.frozen? ⟨w.heap.size + 1, 6, none⟩ = false := (HTH.out 6 (by omega)).2
        go_wp2
        (try simp only [Exit.inBlock, Exit.then])
        refine bodyPost_ret (v := getV (some x)) ?_ rfl ⟨by rw [HG.out], ?_⟩
        · show _ = Result.ok (Value.tuple #[.agg (encN x).toArray, .bool true]) _
          refine results_cell_of rfl _ _ (w.heap.size + 1) (encN x) _ _ ?_ ?_ ?_ Tryz.underlying58 rfl (by kernel_rfl)
          · rfl
          · rfl
          · exact World.rangeAt_setCells_same W0 (w.heap.size + 1) 0 [.int .i64 x.nid, .int .i64 x.tier, .int .i64 x.parent, .int .i64 x.at1, .int .i64 x.at2, .int .i64 x.rank, .string x.text] HTH.out
        · exact below_set (w := W0) (b := w.heap.size + 1) (o := 0) (vs := [.int .i64 x.nid, .int .i64 x.tier, .int .i64 x.parent, .int .i64 x.at1, .int .i64 x.at2, .int .i64 x.rank, .string x.text]) HB.out (by omega) (by omega)
      · have hbe : (x.nid == id) = false := beq_eq_false_iff_ne.2 he
        have HP2 := Lib.hid (pre_step HP.out HX.out he)
        go_wp2
        go_round
        case rel => exact ⟨i + 1, HI.out, by go_num, HP2⟩
        case measure => have := HI.out; simp [intOf]; omega
    · obtain rfl : nn = i := by omega
      have hiz : ¬ (nn : Int) < (nn : Int) := by omega
      have HG : Hid (getN l id = none) := getN_none fun j y hj => HP.out j y (by rw [← HLN.out]; exact hj)
      have hlt1 : w.heap.size + 1 < W0.heap.size := by omega
      have c0 : W0.cell? ⟨w.heap.size + 1, 0, none⟩ = some (.int .i64 0) := HRG.out 0 (.int .i64 0) rfl
      have f0 : W0.frozen? ⟨w.heap.size + 1, 0, none⟩ = false := (HTH.out 0 (by omega)).2
      have c1 : W0.cell? ⟨w.heap.size + 1, 1, none⟩ = some (.int .i64 0) := HRG.out 1 (.int .i64 0) rfl
      have f1 : W0.frozen? ⟨w.heap.size + 1, 1, none⟩ = false := (HTH.out 1 (by omega)).2
      have c2 : W0.cell? ⟨w.heap.size + 1, 2, none⟩ = some (.int .i64 0) := HRG.out 2 (.int .i64 0) rfl
      have f2 : W0.frozen? ⟨w.heap.size + 1, 2, none⟩ = false := (HTH.out 2 (by omega)).2
      have c3 : W0.cell? ⟨w.heap.size + 1, 3, none⟩ = some (.int .i64 0) := HRG.out 3 (.int .i64 0) rfl
      have f3 : W0.frozen? ⟨w.heap.size + 1, 3, none⟩ = false := (HTH.out 3 (by omega)).2
      have c4 : W0.cell? ⟨w.heap.size + 1, 4, none⟩ = some (.int .i64 0) := HRG.out 4 (.int .i64 0) rfl
      have f4 : W0.frozen? ⟨w.heap.size + 1, 4, none⟩ = false := (HTH.out 4 (by omega)).2
      have c5 : W0.cell? ⟨w.heap.size + 1, 5, none⟩ = some (.int .i64 0) := HRG.out 5 (.int .i64 0) rfl
      have f5 : W0.frozen? ⟨w.heap.size + 1, 5, none⟩ = false := (HTH.out 5 (by omega)).2
      have c6 : W0.cell? ⟨w.heap.size + 1, 6, none⟩ = some (.string ⟨#[]⟩) := HRG.out 6 (.string ⟨#[]⟩) rfl
      have f6 : W0.frozen? ⟨w.heap.size + 1, 6, none⟩ = false := (HTH.out 6 (by omega)).2
      go_wp2
      (try simp only [Exit.inBlock, Exit.then])
      refine bodyPost_ret (v := getV none) ?_ rfl ⟨by rw [HG.out], ?_⟩
      · show _ = Result.ok (Value.tuple #[.agg (encN nt0).toArray, .bool false]) _
        refine results_cell_of rfl _ _ (w.heap.size + 1) (encN nt0) _ _ ?_ ?_ ?_ Tryz.underlying58 rfl (by kernel_rfl)
        · rfl
        · rfl
        · exact World.rangeAt_setCells_same W0 (w.heap.size + 1) 0 [.int .i64 0, .int .i64 0, .int .i64 0, .int .i64 0, .int .i64 0, .int .i64 0, .string ⟨#[]⟩] HTH.out
      · exact below_set (w := W0) (b := w.heap.size + 1) (o := 0) (vs := [.int .i64 0, .int .i64 0, .int .i64 0, .int .i64 0, .int .i64 0, .int .i64 0, .string ⟨#[]⟩]) HB.out (by omega) (by omega)
theorem eq_span (a b : Int) (w : World) : (Op.equalIn 10000 56 (.agg #[.int .i64 a, .int .i64 b]) (.agg #[.int .i64 0, .int .i64 0])).run Tryz.prog w = .ok ((a == 0) && (b == 0)) w := by
  have h1 : ∀ (W : World) (x y : Int), (Op.equalIn 9999 3 (.int .i64 x) (.int .i64 y)).run Tryz.prog W = .ok (x == y) W := fun W x y => by
    rw [run_equalIn_int W 9998 _ _ .i64 x y Tryz.underlying3]
  rw [run_equalIn_struct w 9999 _ _ _ (by simp only [Program.fieldsOf, Tryz.underlying56]) (by kernel_rfl)]
  cases ha : (a == 0) <;> cases hb : (b == 0) <;> simp [Program.fieldsOf, Tryz.underlying56, Op.eqFields, part, h1, Tryz.isAgg3, Tryz.sizeOf3, ha, hb]
end Go.Proofs.YthcabnfcgjnlnaaGreatDoor
/-
  The reference's checks of one note: its place; all of it.
-/
namespace Go.Proofs.YthcabnfcgjnlnaaGreatDoor
open Go.RowKit Ru Lay
attribute [local go_sem ↓] Go.wp_at_zero Go.wp_at_succ
set_option linter.unusedVariables false
set_option linter.unusedSimpArgs false

theorem timed_sw (k : Int) (W : World) {b : Bool} (h : timedK k = b) : Calls Tryz.prog 80 #[.int .i64 k] W fun e w' => e = .returned (.bool b) ∧ W = w' := (aligned_any k W).mono fun _ _ q => ⟨by rw [q.1, h], q.2⟩
theorem right09_sw (a b : Int) (W : World) {r : Bool} (h : rightS a b = r) : Calls Tryz.prog 111 #[.agg #[.int .i64 a, .int .i64 b]] W fun e w' => e = .returned (.bool r) ∧ Below W.heap.size W w' := (right09_any a b W).mono fun _ _ q => ⟨by rw [q.1, h], q.2⟩
theorem rightS_lt {a b : Int} (h : rightS a b = true) : a < b := by
  unfold rightS at h
  rw [Bool.and_eq_true, Bool.and_eq_true, decide_eq_true_eq, decide_eq_true_eq] at h
  exact h.2.1
set_option maxHeartbeats 4000000 in
set_option maxRecDepth 100000 in
theorem placed_any (d : Dv) (T : List Ti) (l : List Nt) (x : Nt) (w : World) (hT : TiersR w w.heap.size d.ta d.tn T) (hl : NotesR w w.heap.size d.na d.nn l) (hn : d.nn ≤ 9223372036854775807) (ht : 0 ≤ x.tier ∧ x.tier < (d.tn : Int)) :
    Calls Tryz.prog 83 #[docV d, noteV x] w fun e w' => ∃ r : Int, e = .returned (.int .i64 r) ∧ (r = 0 → PlOk T l x) ∧ Below w.heap.size w w' := by
  have HT := Lib.hid hT
  have HG := Lib.hid fun (W : World) (hW : Below w.heap.size w W) => refGet_any d l x.parent W (hl.on hW) hn
  obtain ⟨j, hj⟩ : ∃ j : Nat, x.tier = (j : Int) := ⟨x.tier.toNat, by omega⟩
  have hjn : j < d.tn := by omega
  obtain ⟨ad, t, hta, hab, htj, _, hcells⟩ := hT.at_ hjn
  have htt : tierT T x.tier = t := by unfold tierT; rw [hj, Int.toNat_natCast, List.getD, htj]; rfl
  obtain ⟨q0, q1, q2, q3⟩ := hcells w (Below.refl _ _)
  have HP : Hid (PlOk T l x = ((((t.kind = 0 ∧ x.parent = 0) ∨ (t.kind ≠ 0 ∧ ∃ p, getN l x.parent = some p ∧ p.tier = t.parent)) ∧ (timedK t.kind = true → x.at1 < x.at2) ∧ (timedK t.kind = false → x.at1 = 0 ∧ x.at2 = 0) ∧ (x.rank = 0 ∨ t.kind = 3)))) := by
    show _ = _
    unfold PlOk
    rw [htt]
  rw [HP.out]
  unfold docV at HG
  unfold docV noteV
  obtain ⟨rid, name, len, day, sa, sn, sc, ta, tn, tc, na, nn, nc⟩ := d
  obtain ⟨nid, tier, par, at1, at2, rk, tx⟩ := x
  obtain ⟨tnm, kd, rl, pr⟩ := t
  simp only at *
  subst hj hta
  clear hT hl ht htj htt HP
  have hjz : (j : Int) < (tn : Int) := by omega
  have hjA : (0 : Int) ≤ (j : Int) := by omega
  go_enter Tryz.func83, Tryz.ntmps83
  go_upto_region 1 with fail
  obtain ⟨W2, hW2⟩ : ∃ W2, ((w.alloc (.cells #[.int .i64 rid, .string name, .int .i64 len, .int .i64 day, .slice sa sn sc, .slice (some ad) tn tc, .slice na nn nc] 38)).alloc (.cells #[.int .i64 nid, .int .i64 (j : Int), .int .i64 par, .int .i64 at1, .int .i64 at2, .int .i64 rk, .string tx] 58)) = W2 := ⟨_, rfl⟩
  have HB2 : Hid (Below w.heap.size w W2) := by rw [← hW2]; exact (((Below.refl _ _).alloc (by simp <;> omega) _).alloc (by simp <;> omega) _)
  have hz2 : W2.heap.size = w.heap.size + 2 := by rw [← hW2]; simp
  have HC2 : Hid (∀ X, Below W2.heap.size W2 X → X.rangeAt (w.heap.size) 0 [.int .i64 rid, .string name, .int .i64 len, .int .i64 day, .slice sa sn sc, .slice (some ad) tn tc, .slice na nn nc] ∧ X.rangeAt (w.heap.size + 1) 0 [.int .i64 nid, .int .i64 (j : Int), .int .i64 par, .int .i64 at1, .int .i64 at2, .int .i64 rk, .string tx]) := fun X hX => by
    refine ⟨?_, ?_⟩
    · refine range_below hX (by omega) fun j v hv => ?_
      rw [← hW2, Nat.zero_add]; rw [World.cell?_alloc_lt _ _ _ (by simp <;> omega)]; rw [World.cell?_alloc_at _ _ _ _ (by simp), ← hv, ← List.getElem?_toArray]; try rfl
    · refine range_below hX (by omega) fun j v hv => ?_
      rw [← hW2, Nat.zero_add]; rw [World.cell?_alloc_at _ _ _ _ (by simp), ← hv, ← List.getElem?_toArray]; try rfl
  (try rw [hW2])
  clear hW2
  clear q0 q1 q2 q3
  obtain ⟨q0, q1, q2, q3⟩ := hcells W2 HB2.out
  obtain ⟨g0, g1⟩ := HC2.out W2 (Below.refl _ _)
  have k0 : W2.cell? ⟨w.heap.size, 0, none⟩ = some (.int .i64 rid) := g0 0 _ rfl
  have k1 : W2.cell? ⟨w.heap.size, 1, none⟩ = some (.string name) := g0 1 _ rfl
  have k2 : W2.cell? ⟨w.heap.size, 2, none⟩ = some (.int .i64 len) := g0 2 _ rfl
  have k3 : W2.cell? ⟨w.heap.size, 3, none⟩ = some (.int .i64 day) := g0 3 _ rfl
  have k4 : W2.cell? ⟨w.heap.size, 4, none⟩ = some (.slice sa sn sc) := g0 4 _ rfl
  have k5 : W2.cell? ⟨w.heap.size, 5, none⟩ = some (.slice (some ad) tn tc) := g0 5 _ rfl
  have k6 : W2.cell? ⟨w.heap.size, 6, none⟩ = some (.slice na nn nc) := g0 6 _ rfl
  have m0 : W2.cell? ⟨w.heap.size + 1, 0, none⟩ = some (.int .i64 nid) := g1 0 _ rfl
  have m1 : W2.cell? ⟨w.heap.size + 1, 1, none⟩ = some (.int .i64 (j : Int)) := g1 1 _ rfl
  have m2 : W2.cell? ⟨w.heap.size + 1, 2, none⟩ = some (.int .i64 par) := g1 2 _ rfl
  have m3 : W2.cell? ⟨w.heap.size + 1, 3, none⟩ = some (.int .i64 at1) := g1 3 _ rfl
  have m4 : W2.cell? ⟨w.heap.size + 1, 4, none⟩ = some (.int .i64 at2) := g1 4 _ rfl
  have m5 : W2.cell? ⟨w.heap.size + 1, 5, none⟩ = some (.int .i64 rk) := g1 5 _ rfl
  have m6 : W2.cell? ⟨w.heap.size + 1, 6, none⟩ = some (.string tx) := g1 6 _ rfl
  clear g0 g1 hcells
  go_upto_region 2 with fail
  obtain ⟨W3, hW30⟩ : ∃ W3, (W2.alloc (.cells #[.string tnm, .int .i64 kd, .int .i64 rl, .int .i64 pr] 86)) = W3 := ⟨_, rfl⟩
  have HB30 : Hid (Below W2.heap.size W2 W3) := by rw [← hW30]; exact ((Below.refl _ _).alloc (by simp <;> omega) _)
  have hz30 : W3.heap.size = W2.heap.size + 1 := by rw [← hW30]; simp
  have HC30 : Hid (∀ X, Below W3.heap.size W3 X → X.rangeAt (W2.heap.size) 0 [.string tnm, .int .i64 kd, .int .i64 rl, .int .i64 pr]) := fun X hX => by
    refine range_below hX (by omega) fun j v hv => ?_
    rw [← hW30, Nat.zero_add]; rw [World.cell?_alloc_at _ _ _ _ (by simp), ← hv, ← List.getElem?_toArray]; try rfl
  (try rw [hW30])
  clear hW30
  have HB3 : Hid (Below w.heap.size w W3) := HB2.out.trans (HB30.out.mono HB2.out.size)
  have HC3 : Hid (∀ X, Below W3.heap.size W3 X → X.rangeAt w.heap.size 0 [.int .i64 rid, .string name, .int .i64 len, .int .i64 day, .slice sa sn sc, .slice (some ad) tn tc, .slice na nn nc] ∧ X.rangeAt (w.heap.size + 1) 0 [.int .i64 nid, .int .i64 (j : Int), .int .i64 par, .int .i64 at1, .int .i64 at2, .int .i64 rk, .string tx] ∧ X.rangeAt (w.heap.size + 2) 0 [.string tnm, .int .i64 kd, .int .i64 rl, .int .i64 pr]) := fun X hX => by
    obtain ⟨g0, g1⟩ := HC2.out X (HB30.out.trans (hX.mono HB30.out.size))
    exact ⟨g0, g1, by rw [← hz2]; exact HC30.out X hX⟩
  clear q0 q1 q2 q3 k0 k1 k2 k3 k4 k5 k6 m0 m1 m2 m3 m4 m5 m6
  obtain ⟨g0, g1, g2⟩ := HC3.out W3 (Below.refl _ _)
  have k0 : W3.cell? ⟨w.heap.size, 0, none⟩ = some (.int .i64 rid) := g0 0 _ rfl
  have k1 : W3.cell? ⟨w.heap.size, 1, none⟩ = some (.string name) := g0 1 _ rfl
  have k2 : W3.cell? ⟨w.heap.size, 2, none⟩ = some (.int .i64 len) := g0 2 _ rfl
  have k3 : W3.cell? ⟨w.heap.size, 3, none⟩ = some (.int .i64 day) := g0 3 _ rfl
  have k4 : W3.cell? ⟨w.heap.size, 4, none⟩ = some (.slice sa sn sc) := g0 4 _ rfl
  have k5 : W3.cell? ⟨w.heap.size, 5, none⟩ = some (.slice (some ad) tn tc) := g0 5 _ rfl
  have k6 : W3.cell? ⟨w.heap.size, 6, none⟩ = some (.slice na nn nc) := g0 6 _ rfl
  have m0 : W3.cell? ⟨w.heap.size + 1, 0, none⟩ = some (.int .i64 nid) := g1 0 _ rfl
  have m1 : W3.cell? ⟨w.heap.size + 1, 1, none⟩ = some (.int .i64 (j : Int)) := g1 1 _ rfl
  have m2 : W3.cell? ⟨w.heap.size + 1, 2, none⟩ = some (.int .i64 par) := g1 2 _ rfl
  have m3 : W3.cell? ⟨w.heap.size + 1, 3, none⟩ = some (.int .i64 at1) := g1 3 _ rfl
  have m4 : W3.cell? ⟨w.heap.size + 1, 4, none⟩ = some (.int .i64 at2) := g1 4 _ rfl
  have m5 : W3.cell? ⟨w.heap.size + 1, 5, none⟩ = some (.int .i64 rk) := g1 5 _ rfl
  have m6 : W3.cell? ⟨w.heap.size + 1, 6, none⟩ = some (.string tx) := g1 6 _ rfl
  have t0 : W3.cell? ⟨w.heap.size + 2, 0, none⟩ = some (.string tnm) := g2 0 _ rfl
  have t1 : W3.cell? ⟨w.heap.size + 2, 1, none⟩ = some (.int .i64 kd) := g2 1 _ rfl
  have t2 : W3.cell? ⟨w.heap.size + 2, 2, none⟩ = some (.int .i64 rl) := g2 2 _ rfl
  have t3 : W3.cell? ⟨w.heap.size + 2, 3, none⟩ = some (.int .i64 pr) := g2 3 _ rfl
  have HG3 := Lib.hid (HG.out W3 HB3.out)
  unfold getV at HG3
  obtain ⟨px, hpx⟩ : ∃ px, (getN l par).getD nt0 = px := ⟨_, rfl⟩
  obtain ⟨ok, hok⟩ : ∃ ok, (getN l par).isSome = ok := ⟨_, rfl⟩
  have HOK : Hid (ok = true → getN l par = some px) := fun h => by
    rw [← hok] at h
    cases hg : getN l par with
    | none => rw [hg] at h; cases h
    | some y => rw [hg] at hpx; rw [← hpx]; rfl
  rw [hpx, hok] at HG3
  unfold noteV at HG3
  clear hpx hok HG g0 g1 g2
  go_wp2_with fail
  refine HG3.out.mono ?_
  rintro e w1 ⟨rfl, hb1⟩
  have HB1 : Hid (Below W3.heap.size W3 w1) := hb1
  clear hb1 HG3 k0 k1 k2 k3 k4 k5 k6 m0 m1 m2 m3 m4 m5 m6 t0 t1 t2 t3
  go_upto_region 3 with fail
  obtain ⟨W4, hW4⟩ : ∃ W4, (w1.alloc (.cells #[.int .i64 px.nid, .int .i64 px.tier, .int .i64 px.parent, .int .i64 px.at1, .int .i64 px.at2, .int .i64 px.rank, .string px.text] 58)) = W4 := ⟨_, rfl⟩
  have HB4 : Hid (Below w1.heap.size w1 W4) := by rw [← hW4]; exact ((Below.refl _ _).alloc (by simp <;> omega) _)
  have hz4 : W4.heap.size = w1.heap.size + 1 := by rw [← hW4]; simp
  have HC4 : Hid (∀ X, Below W4.heap.size W4 X → X.rangeAt (w1.heap.size) 0 [.int .i64 px.nid, .int .i64 px.tier, .int .i64 px.parent, .int .i64 px.at1, .int .i64 px.at2, .int .i64 px.rank, .string px.text]) := fun X hX => by
    refine range_below hX (by omega) fun j v hv => ?_
    rw [← hW4, Nat.zero_add]; rw [World.cell?_alloc_at _ _ _ _ (by simp), ← hv, ← List.getElem?_toArray]; try rfl
  (try rw [hW4])
  clear hW4
  have HB34 : Hid (Below W3.heap.size W3 W4) := HB1.out.trans (HB4.out.mono HB1.out.size)
  have HBW : Hid (Below w.heap.size w W4) := HB3.out.trans (HB34.out.mono HB3.out.size)
  obtain ⟨g0, g1, g2⟩ := HC3.out W4 HB34.out
  have g3 := HC4.out W4 (Below.refl _ _)
  have k2 : W4.cell? ⟨w.heap.size, 2, none⟩ = some (.int .i64 len) := g0 2 _ rfl
  have m2 : W4.cell? ⟨w.heap.size + 1, 2, none⟩ = some (.int .i64 par) := g1 2 _ rfl
  have m3 : W4.cell? ⟨w.heap.size + 1, 3, none⟩ = some (.int .i64 at1) := g1 3 _ rfl
  have m4 : W4.cell? ⟨w.heap.size + 1, 4, none⟩ = some (.int .i64 at2) := g1 4 _ rfl
  have m5 : W4.cell? ⟨w.heap.size + 1, 5, none⟩ = some (.int .i64 rk) := g1 5 _ rfl
  have t1 : W4.cell? ⟨w.heap.size + 2, 1, none⟩ = some (.int .i64 kd) := g2 1 _ rfl
  have t3 : W4.cell? ⟨w.heap.size + 2, 3, none⟩ = some (.int .i64 pr) := g2 3 _ rfl
  have p1 : W4.cell? ⟨w1.heap.size, 1, none⟩ = some (.int .i64 px.tier) := g3 1 _ rfl
  have p3 : W4.cell? ⟨w1.heap.size, 3, none⟩ = some (.int .i64 px.at1) := g3 3 _ rfl
  have p4 : W4.cell? ⟨w1.heap.size, 4, none⟩ = some (.int .i64 px.at2) := g3 4 _ rfl
  clear g0 g1 g2 g3
  by_cases z0 : kd = 0
  · have b0 : (kd == 0) = true := beq_iff_eq.2 z0
    have b0' : (kd != 0) = false := by rw [bne_eq_false_iff_eq]; exact z0
    have Z0 := Lib.hid z0
    by_cases y0 : par = 0
    · have c0 : (par != 0) = false := by rw [bne_eq_false_iff_eq]; exact y0
      have HA : Hid ((kd = 0 ∧ par = 0) ∨ (kd ≠ 0 ∧ ∃ p, getN l par = some p ∧ p.tier = pr)) := .inl ⟨z0, y0⟩
      clear z0 y0
      go_upto_region 5 with fail
      cases htk : timedK kd with
      | true =>
        have HAL := Lib.hid fun W => timed_sw kd W htk
        cases hrs : rightS at1 at2 with
        | false =>
          have HRS := Lib.hid fun W => right09_sw at1 at2 W hrs
          clear htk hrs
          go_wp2_with (first | (go_at_call 80; with_reducible refine (HAL.out _).mono ?_; rintro e w5 ⟨rfl, rfl⟩) | (go_at_call 111; with_reducible refine (HRS.out _).mono ?_; rintro e w6 ⟨rfl, hb6⟩))
          have HBW6 : Hid (Below w.heap.size w w6) := HBW.out.trans (hb6.mono HBW.out.size)
          go_ret
          exact ⟨12, rfl, fun h => absurd h (by decide), HBW6.out⟩
        | true =>
          have HRS := Lib.hid fun W => right09_sw at1 at2 W hrs
          have HS1 : Hid (timedK kd = true → at1 < at2) := fun _ => rightS_lt hrs
          have HS2 : Hid (timedK kd = false → at1 = 0 ∧ at2 = 0) := fun h => by rw [htk] at h; cases h
          clear htk hrs
          go_upto_region 7 with (first | (go_at_call 80; with_reducible refine (HAL.out _).mono ?_; rintro e w5 ⟨rfl, rfl⟩) | (go_at_call 111; with_reducible refine (HRS.out _).mono ?_; rintro e w6 ⟨rfl, hb6⟩))
          have HB6 : Hid (Below W4.heap.size W4 w6) := hb6
          have HBW6 : Hid (Below w.heap.size w w6) := HBW.out.trans (hb6.mono HBW.out.size)
          clear hb6 k2 m2 m3 m4 m5 t1 t3 p1 p3 p4
          obtain ⟨g0, g1, g2⟩ := HC3.out w6 (HB34.out.trans (HB6.out.mono HB34.out.size))
          have g3 := HC4.out w6 HB6.out
          have k2 : w6.cell? ⟨w.heap.size, 2, none⟩ = some (.int .i64 len) := g0 2 _ rfl
          have m2 : w6.cell? ⟨w.heap.size + 1, 2, none⟩ = some (.int .i64 par) := g1 2 _ rfl
          have m3 : w6.cell? ⟨w.heap.size + 1, 3, none⟩ = some (.int .i64 at1) := g1 3 _ rfl
          have m4 : w6.cell? ⟨w.heap.size + 1, 4, none⟩ = some (.int .i64 at2) := g1 4 _ rfl
          have m5 : w6.cell? ⟨w.heap.size + 1, 5, none⟩ = some (.int .i64 rk) := g1 5 _ rfl
          have t1 : w6.cell? ⟨w.heap.size + 2, 1, none⟩ = some (.int .i64 kd) := g2 1 _ rfl
          have t3 : w6.cell? ⟨w.heap.size + 2, 3, none⟩ = some (.int .i64 pr) := g2 3 _ rfl
          have p1 : w6.cell? ⟨w1.heap.size, 1, none⟩ = some (.int .i64 px.tier) := g3 1 _ rfl
          have p3 : w6.cell? ⟨w1.heap.size, 3, none⟩ = some (.int .i64 px.at1) := g3 3 _ rfl
          have p4 : w6.cell? ⟨w1.heap.size, 4, none⟩ = some (.int .i64 px.at2) := g3 4 _ rfl
          clear g0 g1 g2 g3
          by_cases u0 : len < at2
          · have u1 : decide (at2 > len) = true := decide_eq_true u0
            have u1' : decide (len < at2) = true := decide_eq_true u0
            clear u0
            go_wp2
            go_ret
            exact ⟨12, rfl, fun h => absurd h (by decide), HBW6.out⟩
          · have u1 : decide (at2 > len) = false := decide_eq_false u0
            have u1' : decide (len < at2) = false := decide_eq_false u0
            clear u0
            go_upto_region 11 with (go_at_call 80; with_reducible refine (HAL.out _).mono ?_; rintro e w5 ⟨rfl, rfl⟩)
            by_cases n0 : rk < 0
            · have n1 : decide (rk < 0) = true := decide_eq_true n0
              go_wp2
              go_ret
              exact ⟨1, rfl, fun h => absurd h (by decide), HBW6.out⟩
            · have n1 : decide (rk < 0) = false := decide_eq_false n0
              by_cases n2 : rk = 0
              · have n3 : (rk != 0) = false := by rw [bne_eq_false_iff_eq]; exact n2
                have HZ : Hid (rk = 0 ∨ kd = 3) := .inl n2
                clear n2 n0
                go_wp2
                go_ret
                exact ⟨0, rfl, fun _ => ⟨HA.out, HS1.out, HS2.out, HZ.out⟩, HBW6.out⟩
              · have n3 : (rk != 0) = true := bne_iff_ne.2 n2
                by_cases n4 : kd = 3
                · have n5 : (kd != 3) = false := by rw [bne_eq_false_iff_eq]; exact n4
                  have HZ : Hid (rk = 0 ∨ kd = 3) := .inr n4
                  clear n2 n0 n4
                  go_wp2
                  go_ret
                  exact ⟨0, rfl, fun _ => ⟨HA.out, HS1.out, HS2.out, HZ.out⟩, HBW6.out⟩
                · have n5 : (kd != 3) = true := bne_iff_ne.2 n4
                  clear n2 n0 n4
                  go_wp2
                  go_ret
                  exact ⟨1, rfl, fun h => absurd h (by decide), HBW6.out⟩
      | false =>
        exfalso
        rw [Z0.out] at htk
        exact absurd htk (by decide)
    · have c0 : (par != 0) = true := bne_iff_ne.2 y0
      clear z0 y0
      go_wp2
      go_ret
      exact ⟨13, rfl, fun h => absurd h (by decide), HBW.out⟩
  · have b0 : (kd == 0) = false := beq_eq_false_iff_ne.2 z0
    have b0' : (kd != 0) = true := bne_iff_ne.2 z0
    cases ok with
    | false =>
      clear z0
      go_wp2
      go_ret
      exact ⟨13, rfl, fun h => absurd h (by decide), HBW.out⟩
    | true =>
      by_cases y0 : px.tier = pr
      · have c0 : (px.tier != pr) = false := by rw [bne_eq_false_iff_eq]; exact y0
        have HA : Hid ((kd = 0 ∧ par = 0) ∨ (kd ≠ 0 ∧ ∃ p, getN l par = some p ∧ p.tier = pr)) := .inr ⟨z0, px, HOK.out rfl, y0⟩
        clear z0 y0
        go_upto_region 5 with fail
        cases htk : timedK kd with
        | true =>
          have HAL := Lib.hid fun W => timed_sw kd W htk
          cases hrs : rightS at1 at2 with
          | false =>
            have HRS := Lib.hid fun W => right09_sw at1 at2 W hrs
            clear htk hrs
            go_wp2_with (first | (go_at_call 80; with_reducible refine (HAL.out _).mono ?_; rintro e w5 ⟨rfl, rfl⟩) | (go_at_call 111; with_reducible refine (HRS.out _).mono ?_; rintro e w6 ⟨rfl, hb6⟩))
            have HBW6 : Hid (Below w.heap.size w w6) := HBW.out.trans (hb6.mono HBW.out.size)
            go_ret
            exact ⟨12, rfl, fun h => absurd h (by decide), HBW6.out⟩
          | true =>
            have HRS := Lib.hid fun W => right09_sw at1 at2 W hrs
            have HS1 : Hid (timedK kd = true → at1 < at2) := fun _ => rightS_lt hrs
            have HS2 : Hid (timedK kd = false → at1 = 0 ∧ at2 = 0) := fun h => by rw [htk] at h; cases h
            clear htk hrs
            go_upto_region 7 with (first | (go_at_call 80; with_reducible refine (HAL.out _).mono ?_; rintro e w5 ⟨rfl, rfl⟩) | (go_at_call 111; with_reducible refine (HRS.out _).mono ?_; rintro e w6 ⟨rfl, hb6⟩))
            have HB6 : Hid (Below W4.heap.size W4 w6) := hb6
            have HBW6 : Hid (Below w.heap.size w w6) := HBW.out.trans (hb6.mono HBW.out.size)
            clear hb6 k2 m2 m3 m4 m5 t1 t3 p1 p3 p4
            obtain ⟨g0, g1, g2⟩ := HC3.out w6 (HB34.out.trans (HB6.out.mono HB34.out.size))
            have g3 := HC4.out w6 HB6.out
            have k2 : w6.cell? ⟨w.heap.size, 2, none⟩ = some (.int .i64 len) := g0 2 _ rfl
            have m2 : w6.cell? ⟨w.heap.size + 1, 2, none⟩ = some (.int .i64 par) := g1 2 _ rfl
            have m3 : w6.cell? ⟨w.heap.size + 1, 3, none⟩ = some (.int .i64 at1) := g1 3 _ rfl
            have m4 : w6.cell? ⟨w.heap.size + 1, 4, none⟩ = some (.int .i64 at2) := g1 4 _ rfl
            have m5 : w6.cell? ⟨w.heap.size + 1, 5, none⟩ = some (.int .i64 rk) := g1 5 _ rfl
            have t1 : w6.cell? ⟨w.heap.size + 2, 1, none⟩ = some (.int .i64 kd) := g2 1 _ rfl
            have t3 : w6.cell? ⟨w.heap.size + 2, 3, none⟩ = some (.int .i64 pr) := g2 3 _ rfl
            have p1 : w6.cell? ⟨w1.heap.size, 1, none⟩ = some (.int .i64 px.tier) := g3 1 _ rfl
            have p3 : w6.cell? ⟨w1.heap.size, 3, none⟩ = some (.int .i64 px.at1) := g3 3 _ rfl
            have p4 : w6.cell? ⟨w1.heap.size, 4, none⟩ = some (.int .i64 px.at2) := g3 4 _ rfl
            clear g0 g1 g2 g3
            by_cases u0 : at1 < px.at1
            · have u1 : decide (at1 < px.at1) = true := decide_eq_true u0
              clear u0
              go_wp2_with (go_at_call 80; with_reducible refine (HAL.out _).mono ?_; rintro e w5 ⟨rfl, rfl⟩)
              go_ret
              exact ⟨12, rfl, fun h => absurd h (by decide), HBW6.out⟩
            · have u1 : decide (at1 < px.at1) = false := decide_eq_false u0
              by_cases v0 : px.at2 < at2
              · have v1 : decide (at2 > px.at2) = true := decide_eq_true v0
                have v1' : decide (px.at2 < at2) = true := decide_eq_true v0
                clear u0 v0
                go_wp2_with (go_at_call 80; with_reducible refine (HAL.out _).mono ?_; rintro e w5 ⟨rfl, rfl⟩)
                go_ret
                exact ⟨12, rfl, fun h => absurd h (by decide), HBW6.out⟩
              · have v1 : decide (at2 > px.at2) = false := decide_eq_false v0
                have v1' : decide (px.at2 < at2) = false := decide_eq_false v0
                clear u0 v0
                go_upto_region 11 with (go_at_call 80; with_reducible refine (HAL.out _).mono ?_; rintro e w5 ⟨rfl, rfl⟩)
                by_cases n0 : rk < 0
                · have n1 : decide (rk < 0) = true := decide_eq_true n0
                  go_wp2
                  go_ret
                  exact ⟨1, rfl, fun h => absurd h (by decide), HBW6.out⟩
                · have n1 : decide (rk < 0) = false := decide_eq_false n0
                  by_cases n2 : rk = 0
                  · have n3 : (rk != 0) = false := by rw [bne_eq_false_iff_eq]; exact n2
                    have HZ : Hid (rk = 0 ∨ kd = 3) := .inl n2
                    clear n2 n0
                    go_wp2
                    go_ret
                    exact ⟨0, rfl, fun _ => ⟨HA.out, HS1.out, HS2.out, HZ.out⟩, HBW6.out⟩
                  · have n3 : (rk != 0) = true := bne_iff_ne.2 n2
                    by_cases n4 : kd = 3
                    · have n5 : (kd != 3) = false := by rw [bne_eq_false_iff_eq]; exact n4
                      have HZ : Hid (rk = 0 ∨ kd = 3) := .inr n4
                      clear n2 n0 n4
                      go_wp2
                      go_ret
                      exact ⟨0, rfl, fun _ => ⟨HA.out, HS1.out, HS2.out, HZ.out⟩, HBW6.out⟩
                    · have n5 : (kd != 3) = true := bne_iff_ne.2 n4
                      clear n2 n0 n4
                      go_wp2
                      go_ret
                      exact ⟨1, rfl, fun h => absurd h (by decide), HBW6.out⟩
        | false =>
          have HAL := Lib.hid fun W => timed_sw kd W htk
          have HES := Lib.hid fun W => eq_span at1 at2 W
          have HS1 : Hid (timedK kd = true → at1 < at2) := fun h => by rw [htk] at h; cases h
          by_cases s1 : at1 = 0
          · have e1 : (at1 == 0) = true := beq_iff_eq.2 s1
            by_cases s2 : at2 = 0
            · have e2 : (at2 == 0) = true := beq_iff_eq.2 s2
              have HS2 : Hid (timedK kd = false → at1 = 0 ∧ at2 = 0) := fun _ => ⟨s1, s2⟩
              have hes : ∀ W, (Op.equalIn 10000 56 (.agg #[.int .i64 at1, .int .i64 at2]) (.agg #[.int .i64 0, .int .i64 0])).run Tryz.prog W = .ok true W := fun W => by rw [HES.out W, e1, e2]; rfl
              clear htk s1 s2 e1 e2
              have hg := Tryz.eqGuardType56
              go_upto_region 11 with (go_at_call 80; with_reducible refine (HAL.out _).mono ?_; rintro e w5 ⟨rfl, rfl⟩)
              by_cases n0 : rk < 0
              · have n1 : decide (rk < 0) = true := decide_eq_true n0
                go_wp2
                go_ret
                exact ⟨1, rfl, fun h => absurd h (by decide), HBW.out⟩
              · have n1 : decide (rk < 0) = false := decide_eq_false n0
                by_cases n2 : rk = 0
                · have n3 : (rk != 0) = false := by rw [bne_eq_false_iff_eq]; exact n2
                  have HZ : Hid (rk = 0 ∨ kd = 3) := .inl n2
                  clear n2 n0
                  go_wp2
                  go_ret
                  exact ⟨0, rfl, fun _ => ⟨HA.out, HS1.out, HS2.out, HZ.out⟩, HBW.out⟩
                · have n3 : (rk != 0) = true := bne_iff_ne.2 n2
                  by_cases n4 : kd = 3
                  · have n5 : (kd != 3) = false := by rw [bne_eq_false_iff_eq]; exact n4
                    have HZ : Hid (rk = 0 ∨ kd = 3) := .inr n4
                    clear n2 n0 n4
                    go_wp2
                    go_ret
                    exact ⟨0, rfl, fun _ => ⟨HA.out, HS1.out, HS2.out, HZ.out⟩, HBW.out⟩
                  · have n5 : (kd != 3) = true := bne_iff_ne.2 n4
                    clear n2 n0 n4
                    go_wp2
                    go_ret
                    exact ⟨1, rfl, fun h => absurd h (by decide), HBW.out⟩
            · have e2 : (at2 == 0) = false := beq_eq_false_iff_ne.2 s2
              have hes : ∀ W, (Op.equalIn 10000 56 (.agg #[.int .i64 at1, .int .i64 at2]) (.agg #[.int .i64 0, .int .i64 0])).run Tryz.prog W = .ok false W := fun W => by rw [HES.out W, e1, e2]; rfl
              clear htk
              have hg := Tryz.eqGuardType56
              go_wp2_with (go_at_call 80; with_reducible refine (HAL.out _).mono ?_; rintro e w5 ⟨rfl, rfl⟩)
              go_ret
              exact ⟨12, rfl, fun h => absurd h (by decide), HBW.out⟩
          · have e1 : (at1 == 0) = false := beq_eq_false_iff_ne.2 s1
            have hes : ∀ W, (Op.equalIn 10000 56 (.agg #[.int .i64 at1, .int .i64 at2]) (.agg #[.int .i64 0, .int .i64 0])).run Tryz.prog W = .ok false W := fun W => by rw [HES.out W, e1]; rfl
            clear htk
            have hg := Tryz.eqGuardType56
            go_wp2_with (go_at_call 80; with_reducible refine (HAL.out _).mono ?_; rintro e w5 ⟨rfl, rfl⟩)
            go_ret
            exact ⟨12, rfl, fun h => absurd h (by decide), HBW.out⟩
      · have c0 : (px.tier != pr) = true := bne_iff_ne.2 y0
        clear z0 y0
        go_wp2
        go_ret
        exact ⟨13, rfl, fun h => absurd h (by decide), HBW.out⟩
end Go.Proofs.YthcabnfcgjnlnaaGreatDoor
