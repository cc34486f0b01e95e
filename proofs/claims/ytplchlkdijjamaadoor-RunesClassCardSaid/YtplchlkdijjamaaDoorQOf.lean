import Derived.Test.YtplchlkdijjamaaDoorRefOrd
import Derived.Test.YtplchlkdijjamaaDoorPlainDec
import Derived.Test.YtplchlkdijjamaaDoorShelf
import Derived.IntWalk
import Derived.Laws.BytesArg
namespace Go.Proofs.YtplchlkdijjamaaDoor
open Go.RowKit Ru
set_option linter.unusedVariables false
set_option linter.unusedSimpArgs false

theorem byteCells_len (l : List UInt8) : (Lib.byteCells l).length = l.length := by simp [Lib.byteCells]
theorem byteCells_app (a b : List UInt8) : Lib.byteCells (a ++ b) = Lib.byteCells a ++ Lib.byteCells b := by simp [Lib.byteCells]
theorem runeCells_enc {p : Nat} (h : scalarB (p : Int) = true) : Lib.runeCells (p : Int) = Lib.byteCells (encL (p : Int)) := by
  rw [← Lib.byteCells_encodeRune, encodeRune_same h]
/-- 'string(b)' of a row of the call's own. -/
theorem conv_own {w : World} {base : Nat} {v : Value} {bs : List UInt8} (h : w.ownsRow base 5 1 v bs.length (Lib.byteCells bs)) :
    (convert 45 9 v).run Tryd.prog w = .ok (.string (strL bs)) w := by
  obtain ⟨A, c, rfl, _, _, hr⟩ := own_form h
  cases A with
  | none =>
    have hn : bs = [] := by
      have := (reads_none hr).1
      exact List.eq_nil_of_length_eq_zero this
    subst hn
    exact run_convert_bytes_nil (P := Tryd.prog) (w := w) 45 5 Tryd.underlying45 Tryd.underlying5 _ c 9 Tryd.underlying9
  | some ad =>
    refine run_convert_bytes_back (P := Tryd.prog) w 45 9 5 ad c bs Tryd.underlying45 Tryd.underlying5 Tryd.underlying9 fun j hj => ?_
    obtain ⟨ad', e1, _, hc⟩ := hr.2 (by omega)
    cases e1
    refine hc j _ ?_
    unfold Lib.byteCells
    rw [List.getElem?_map, List.getElem?_eq_getElem hj]
    rfl
theorem info_u8 : (Tryd.prog.info? 5).map (fun i => (i.zero, i.size, i.bytes)) = some (some (.int .u8 0), 1, 1) := by kernel_rfl

set_option maxHeartbeats 2000000 in
set_option maxRecDepth 100000 in
theorem of_any (A : Option Addr) (n c : Nat) (l : List Int) (w : World) (h : IR w w.heap.size A n l) (hn : n ≤ 1099511627776) :
    Calls Tryd.prog 17 #[.slice A n c] w fun e w' => e = .returned (ofV (Ru.ofI l)) ∧ Below w.heap.size w w' := by
  have HLN := Lib.hid h.len
  have HR := Lib.hid h; clear h
  go_enter Tryd.func17, Tryd.ntmps17
  go_wp2_with fail
  go_loopw [4, 6, 9] (fun v4 _ v9 wr => ∃ (k : Nat) (bs : List UInt8), k ≤ n ∧ v9 = .int .i64 k ∧ bs.length ≤ 4 * k ∧ Hid (wr.ownsRow w.heap.size 5 1 v4 bs.length (Lib.byteCells bs)) ∧ Hid (bs = (l.take k).flatMap Ru.encL) ∧ Hid ((l.take k).all Ru.scalarB = true) ∧ Hid (Below w.heap.size w wr)) (fun _ _ v9 _ => n - (intOf v9).toNat)
  case atStart => exact ⟨0, [], Nat.zero_le _, rfl, Nat.le_refl _, World.ownsRow_nil _ _ _ _, rfl, rfl, Below.refl _ _⟩
  case round =>
    obtain ⟨k, bs, hk, rfl, hbl, HO, HT, HA, HB⟩ := hrel
    by_cases hlt : k < n
    · have hkz : (k : Int) < (n : Int) := by omega
      obtain ⟨ad, x, rfl, _, hx, hcx⟩ := (IR.on HR.out HB.out).at_ hlt
      have HX := Lib.hid hx; clear hx
      by_cases h0 : x < 0
      · have hb : Ru.scalarB x = false := by unfold Ru.scalarB; rw [decide_eq_false (by omega : ¬ 0 ≤ x)]; rfl
        have HRES : Hid (Ru.ofI l = none) := ofI_none HX.out hb
        have d0 : decide (x < 0) = true := decide_eq_true h0
        clear hb
        go_wp2
        go_ret2
        exact ⟨by rw [HRES.out]; rfl, HB.out⟩
      · have d0 : decide (x < 0) = false := decide_eq_false h0
        by_cases h1 : 1114111 < x
        · have hb : Ru.scalarB x = false := by unfold Ru.scalarB; rw [decide_eq_false (by omega : ¬ x ≤ 1114111)]; simp
          have HRES : Hid (Ru.ofI l = none) := ofI_none HX.out hb
          have d1 : decide (1114111 < x) = true := decide_eq_true h1
          clear hb
          go_wp2
          go_ret2
          exact ⟨by rw [HRES.out]; rfl, HB.out⟩
        · have d1 : decide (1114111 < x) = false := decide_eq_false h1
          by_cases h2 : 55296 ≤ x ∧ x ≤ 57343
          · have hb : Ru.scalarB x = false := by unfold Ru.scalarB; rw [decide_eq_false (by omega : ¬ x < 55296), decide_eq_false (by omega : ¬ 57343 < x)]; simp
            have HRES : Hid (Ru.ofI l = none) := ofI_none HX.out hb
            have d2 : decide (55296 ≤ x) = true := decide_eq_true h2.1
            have d3 : decide (x ≤ 57343) = true := decide_eq_true h2.2
            clear hb h2
            go_wp2
            go_ret2
            exact ⟨by rw [HRES.out]; rfl, HB.out⟩
          · obtain ⟨p, rfl⟩ : ∃ p : Nat, x = (p : Int) := ⟨x.toNat, by omega⟩
            have hb : Ru.scalarB (p : Int) = true := scalar_iff.2 ⟨by omega, by omega⟩
            have hcells := runeCells_enc hb
            have hel := (encL_len (p : Int)).2
            have HAR := Lib.hid (Tryd.utf8_AppendRune_plain w.heap.size)
            have HT2 : Hid (bs ++ encL (p : Int) = (l.take (k + 1)).flatMap Ru.encL) := by
              show _ = _
              rw [take_at HX.out, List.flatMap_append, HT.out]
              simp
            have HA2 : Hid ((l.take (k + 1)).all Ru.scalarB = true) := by
              show _ = _
              rw [take_at HX.out, List.all_append, HA.out]
              simp [hb]
            have HCE := Lib.hid hcells
            have hw32 : IntKind.i32.wrap (p : Int) = (p : Int) := by rw [IntKind.wrap_i32]; omega
            have hsz := HB.out.size
            clear hb hcells
            by_cases h3 : 55296 ≤ (p : Int)
            all_goals
              first
                | (have d2 : decide (55296 ≤ (p : Int)) = true := decide_eq_true h3
                   have d3 : decide ((p : Int) ≤ 57343) = false := decide_eq_false (by omega))
                | (have d2 : decide (55296 ≤ (p : Int)) = false := decide_eq_false h3)
              clear h2 h3
              go_wp2_with (go_at_call 32; refine (HAR.out _ bs.length (Lib.byteCells bs) (p : Int) (by omega) (by omega) _ HO.out (by omega) hsz).mono ?_; rintro e w1 ⟨v1, rfl, hown1, o1, hg1⟩)
              have HO1 : Hid (w1.ownsRow w.heap.size 5 1 v1 (bs ++ encL (p : Int)).length (Lib.byteCells (bs ++ encL (p : Int)))) := by
                rw [HCE.out, byteCells_len] at hown1
                show World.ownsRow _ _ _ _ _ _ _
                rw [List.length_append, byteCells_app]
                exact hown1
              have HB1 : Hid (Below w.heap.size w w1) := (HB.out.alloc hsz o1).grown hg1 (by simp; omega) fun k hk => (HO.out.lt k hk).1
              clear hown1 hg1
              go_roundw
              case rel => exact ⟨k + 1, _, by omega, by go_num, by rw [List.length_append]; omega, HO1, HT2, HA2, HB1⟩
              case measure => simp [intOf]; omega
    · obtain rfl : n = k := by omega
      have hkz : ¬ (n : Int) < (n : Int) := by omega
      have HRES : Hid (Ru.ofI l = some bs) := by
        show _ = _
        have h1 := HT.out
        have h2 := HA.out
        rw [List.take_of_length_le (by rw [HLN.out]; exact Nat.le_refl _)] at h1 h2
        unfold Ru.ofI
        rw [if_pos h2, h1]
      have hcv := conv_own HO.out
      go_wp2
      go_ret2
      refine ⟨?_, HB.out⟩
      rw [HRES.out]
      rfl
end Go.Proofs.YtplchlkdijjamaaDoor
