/-
  The law's own helpers: few, same.
-/
import Derived.Test.YtacfeabdeaikhaaDoorWrap
import Derived.ChangeKeysEq
import Derived.Laws.StructEq
namespace Go.Proofs.YtacfeabdeaikhaaDoor
open Go.RowKit Ru Lay
attribute [local go_sem ↓] Go.wp_at_zero Go.wp_at_succ
set_option linter.unusedVariables false
set_option linter.unusedSimpArgs false

def FewR (r : List ByteArray) : Prop := r.length ≤ 12 ∧ ∀ s ∈ r, s.size ≤ 60
def Few (L : List (List ByteArray)) : Prop := L.length ≤ 20 ∧ ∀ r ∈ L, FewR r
theorem Few.sz {L : List (List ByteArray)} (h : Few L) : SzL L := ⟨by have := h.1; omega, fun r hr => ⟨by have := (h.2 r hr).1; omega, fun s hs => by have := (h.2 r hr).2 s hs; omega⟩⟩
theorem pre_all {α : Type} {l : List α} {Q : α → Prop} (h : ∀ j x, j < l.length → l[j]? = some x → Q x) : ∀ x ∈ l, Q x := fun x hx => by
  obtain ⟨j, hj⟩ := List.getElem?_of_mem hx
  exact h j x (List.getElem?_eq_some_iff.1 hj).1 hj
def FewPost (L : List (List ByteArray)) (w : World) (e : Ending) (w' : World) : Prop := ∃ b, e = .returned (.bool b) ∧ (b = true ↔ Few L) ∧ w = w'
theorem FewPost.no {L : List (List ByteArray)} {w : World} (h : ¬ Few L) : FewPost L w (.returned (.bool false)) w := ⟨false, rfl, ⟨fun h => (by cases h), fun h2 => absurd h2 h⟩, rfl⟩
theorem FewPost.yes {L : List (List ByteArray)} {w : World} (h : Few L) : FewPost L w (.returned (.bool true)) w := ⟨true, rfl, ⟨fun _ => h, fun _ => rfl⟩, rfl⟩
set_option maxHeartbeats 2000000 in
theorem few_any (A : Option Addr) (n c : Nat) (L : List (List ByteArray)) (w : World) (hL : RowsR w w.heap.size A n L) (hn : n ≤ 9223372036854775807) :
    Calls Tryd.prog 17 #[.slice A n c] w (FewPost L w) := by
  have HL := Lib.hid hL
  have HLN := Lib.hid hL.len
  clear hL
  by_cases h20 : n ≤ 20
  · have hd : ¬ (20 : Int) < (n : Int) := by omega
    go_enter Tryd.func17, Tryd.ntmps17
    go_wp2_with fail
    go_loop [3, 4] (fun v3 _ => ∃ i : Nat, i ≤ n ∧ v3 = .int .i64 i ∧ Hid (∀ j r, j < i → L[j]? = some r → FewR r)) (fun v3 _ => n - (intOf v3).toNat)
    case atStart => exact ⟨0, Nat.zero_le _, rfl, fun j r h => by omega⟩
    case round =>
      obtain ⟨i, hi, rfl, HP⟩ := hrel
      by_cases hlt : i < n
      · have hiz : (i : Int) < (n : Int) := by omega
        have hiA : (0 : Int) ≤ (i : Int) := by omega
        obtain ⟨ad, r, RA, rn, rc, rfl, hadb, hr, hcr, hsr, hc1, hc2⟩ := HL.out.at_ hlt
        have HRR := Lib.hid hr
        have HRN := Lib.hid hsr.len
        have HSR := Lib.hid hsr
        clear hr hsr
        by_cases h12 : rn ≤ 12
        · have hd2 : ¬ (12 : Int) < (rn : Int) := by omega
          have HI := Lib.hid hlt
          go_wp2_with fail
          go_loop [4] (fun v4 => ∃ k : Nat, k ≤ rn ∧ v4 = .int .i64 k ∧ Hid (∀ j s, j < k → r[j]? = some s → s.size ≤ 60)) (fun v4 => rn - (intOf v4).toNat)
          case atStart => exact ⟨0, Nat.zero_le _, rfl, fun j r h => by omega⟩
          case round =>
            obtain ⟨k, hk, rfl, HQ⟩ := hrel
            by_cases hkl : k < rn
            · have hkz : (k : Int) < (rn : Int) := by omega
              have hkA : (0 : Int) ≤ (k : Int) := by omega
              obtain ⟨rd, s, rfl, hrb, hs, hcs⟩ := HSR.out.at_ hkl
              have HS := Lib.hid hs
              clear hs
              by_cases h60 : s.size ≤ 60
              · have hd3 : ¬ (60 : Int) < (s.size : Int) := by omega
                have HQ2 : Hid (∀ j s, j < k + 1 → r[j]? = some s → s.size ≤ 60) := fun j t hj ht => by
                  by_cases e : j = k
                  · subst e
                    have := HS.out
                    rw [ht] at this
                    cases this
                    exact h60
                  · exact HQ.out j t (by omega) ht
                go_wp2
                go_round
                case rel => exact ⟨k + 1, by omega, by go_num, HQ2⟩
                case measure => simp [intOf]; omega
              · have hd3 : (60 : Int) < (s.size : Int) := by omega
                have HN : Hid (¬ Few L) := fun hf => h60 ((hf.2 r (List.mem_of_getElem? HRR.out)).2 s (List.mem_of_getElem? HS.out))
                go_wp2
                go_ret
                exact FewPost.no HN.out
            · obtain rfl : rn = k := by omega
              have hkz : ¬ (rn : Int) < (rn : Int) := by omega
              have HP2 : Hid (∀ j r, j < i + 1 → L[j]? = some r → FewR r) := fun j t hj ht => by
                by_cases e : j = i
                · subst e
                  have := HRR.out
                  rw [ht] at this
                  cases this
                  exact ⟨by rw [HRN.out]; exact h12, pre_all fun j s hj hs => HQ.out j s (by rw [← HRN.out]; exact hj) hs⟩
                · exact HP.out j t (by omega) ht
              have hi1 : i + 1 ≤ n := HI.out
              go_wp2
              go_round
              case rel => exact ⟨i + 1, hi1, by go_num, HP2⟩
              case measure => have := HI.out; simp [intOf]; omega
        · have hd2 : (12 : Int) < (rn : Int) := by omega
          have HN : Hid (¬ Few L) := fun hf => h12 (by rw [← HRN.out]; exact (hf.2 r (List.mem_of_getElem? HRR.out)).1)
          go_wp2
          go_ret
          exact FewPost.no HN.out
      · obtain rfl : n = i := by omega
        have hiz : ¬ (n : Int) < (n : Int) := by omega
        have HN : Hid (Few L) := ⟨by rw [HLN.out]; exact h20, pre_all fun j r hj hr => HP.out j r (by rw [← HLN.out]; exact hj) hr⟩
        go_wp2
        go_ret
        exact FewPost.yes HN.out
  · have hd : (20 : Int) < (n : Int) := by omega
    have HN : Hid (¬ Few L) := fun hf => h20 (by rw [← HLN.out]; exact hf.1)
    go_enter Tryd.func17, Tryd.ntmps17
    go_wp2
    go_ret
    exact FewPost.no HN.out
theorem few_yes {A : Option Addr} {n c : Nat} {L : List (List ByteArray)} {w : World} (hL : RowsR w w.heap.size A n L) (hn : n ≤ 9223372036854775807) (h : Few L) :
    Calls Tryd.prog 17 #[.slice A n c] w fun e w' => e = .returned (.bool true) ∧ w = w' :=
  (few_any A n c L w hL hn).mono fun _ _ ⟨b, he, hb, hw⟩ => ⟨by rw [he, hb.2 h], hw⟩
theorem few_no {A : Option Addr} {n c : Nat} {L : List (List ByteArray)} {w : World} (hL : RowsR w w.heap.size A n L) (hn : n ≤ 9223372036854775807) (h : ¬ Few L) :
    Calls Tryd.prog 17 #[.slice A n c] w fun e w' => e = .returned (.bool false) ∧ w = w' :=
  (few_any A n c L w hL hn).mono fun _ _ ⟨b, he, hb, hw⟩ => ⟨by cases b with
    | false => exact he
    | true => exact absurd (hb.1 rfl) h, hw⟩
theorem cells_int : Tryd.prog.cellsOf 3 = 1 := by kernel_rfl
theorem eq_pair (a b : Int) (w : World) : (Op.equalIn 10000 40 (.agg #[.int .i64 a, .int .i64 b]) (.agg #[.int .i64 a, .int .i64 b])).run Tryd.prog w = .ok true w := by
  obtain ⟨i0, hi, _, _, _⟩ := info_parts info_int2
  rw [run_equalIn_array w 9999 _ _ Tryd.underlying40 hi, cells_int]
  have h1 : ∀ (W : World) (x : Int), (Op.equalIn 9999 3 (.int .i64 x) (.int .i64 x)).run Tryd.prog W = .ok true W := fun W x => by
    rw [run_equalIn_int W 9998 _ _ .i64 x x Tryd.underlying3, beq_self_eq_true]
  simp [Op.eqItems, List.range, List.range.loop, part, h1, Tryd.isAgg3, Tryd.sizeOf3]
set_option maxHeartbeats 2000000 in
theorem samePairs_any (A B : Option Addr) (n c d : Nat) (l : List (Nat × Nat)) (w : World) (ha : GR w w.heap.size A n l) (hb : GR w w.heap.size B n l) (hn : n ≤ 9223372036854775807) :
    Calls Tryd.prog 21 #[.slice A n c, .slice B n d] w fun e w' => e = .returned (.bool true) ∧ Below w.heap.size w w' := by
  have HA := Lib.hid ha
  have HB := Lib.hid hb
  clear ha hb
  go_enter Tryd.func21, Tryd.ntmps21
  go_wp2_with fail
  go_loopw [5] (fun v5 wr => ∃ k : Nat, k ≤ n ∧ v5 = .int .i64 k ∧ Hid (Below w.heap.size w wr)) (fun v5 _ => n - (intOf v5).toNat)
  case atStart => exact ⟨0, Nat.zero_le _, rfl, Below.refl _ _⟩
  case round =>
    obtain ⟨k, hk, rfl, HZ⟩ := hrel
    by_cases hlt : k < n
    · have hkz : (k : Int) < (n : Int) := by omega
      have hkA : (0 : Int) ≤ (k : Int) := by omega
      obtain ⟨ad, p, rfl, hab, hp, ha0, ha1⟩ := HA.out.at_ hlt
      obtain ⟨bd, q, rfl, hbb, hq0, hb0, hb1⟩ := HB.out.at_ hlt
      obtain rfl : p = q := by rw [hp] at hq0; exact Option.some.inj hq0
      clear hq0
      have q1 : ∀ r : BW wr, r.at_.cell? (ad.add (k * 2)) = some (.int .i64 (p.1 : Int)) := fun r => ((HZ.out.trans (r.bel.mono HZ.out.size)).cell (by rw [block_of_add]; exact hab)).trans ha0
      have q2 : ∀ r : BW wr, r.at_.cell? ⟨(ad.add (k * 2)).block, (ad.add (k * 2)).off + 1, none⟩ = some (.int .i64 (p.2 : Int)) := fun r => ((HZ.out.trans (r.bel.mono HZ.out.size)).cell (p := ⟨(ad.add (k * 2)).block, (ad.add (k * 2)).off + 1, none⟩) (by show (ad.add (k * 2)).block < _; rw [block_of_add]; exact hab)).trans ha1
      have q3 : ∀ r : BW wr, r.at_.cell? (bd.add (k * 2)) = some (.int .i64 (p.1 : Int)) := fun r => ((HZ.out.trans (r.bel.mono HZ.out.size)).cell (by rw [block_of_add]; exact hbb)).trans hb0
      have q4 : ∀ r : BW wr, r.at_.cell? ⟨(bd.add (k * 2)).block, (bd.add (k * 2)).off + 1, none⟩ = some (.int .i64 (p.2 : Int)) := fun r => ((HZ.out.trans (r.bel.mono HZ.out.size)).cell (p := ⟨(bd.add (k * 2)).block, (bd.add (k * 2)).off + 1, none⟩) (by show (bd.add (k * 2)).block < _; rw [block_of_add]; exact hbb)).trans hb1
      have hg := Tryd.eqGuardType40
      have hq : ∀ W : World, (Op.equalIn 10000 40 (.agg #[.int .i64 (p.1 : Int), .int .i64 (p.2 : Int)]) (.agg #[.int .i64 (p.1 : Int), .int .i64 (p.2 : Int)])).run Tryd.prog W = .ok true W := eq_pair _ _
      clear hp ha0 ha1 hb0 hb1
      go_wp2_with fail
      refine wp_region_quiet_below (by kernel_rfl) (by kernel_rfl) ?_
      repeat (go_big_quiet_step (fail))
      refine wpQuiet_nil ?_
      intro w1 hw'
      have hb1 := bw_below hw'
      have HZ1 : Hid (Below w.heap.size w w1) := HZ.out.trans (hb1.mono HZ.out.size)
      clear hw' hb1 q1 q2 q3 q4 hg hq
      go_wp2
      go_roundw
      case rel => exact ⟨k + 1, by omega, by go_num, HZ1⟩
      case measure => simp [intOf]; omega
    · obtain rfl : n = k := by omega
      have hkz : ¬ (n : Int) < (n : Int) := by omega
      go_wp2
      go_ret
      exact ⟨rfl, HZ.out⟩
end Go.Proofs.YtacfeabdeaikhaaDoor
