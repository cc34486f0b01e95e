import Derived.Test.YtacfeabdeaikhaaDoorWrap
import Derived.ChangeKeysEq
import Derived.Laws.StructEq
/-
  The law's own helpers: few, same.
-/
namespace Go.Proofs.YtacfeabdeaikhaaDoor
open Go.RowKit Ru Lay
attribute [local go_sem ↓] Go.wp_at_zero Go.wp_at_succ
set_option linter.unusedVariables false
set_option linter.unusedSimpArgs false

def FewR (r : List ByteArray) : Prop := r.length ≤ 12 ∧ ∀ s ∈ r, s.size ≤ 60
def Few (L : List (List ByteArray)) : Prop := L.length ≤ 20 ∧ ∀ r ∈ L, FewR r
theorem Few.sz {L : List (List ByteArray)} (h : Few L) : SzL L := ⟨by have := h.1; omega, fun r hr => ⟨by have := (h.2 r hr).1; omega, fun s hs => by have := (h.2 r hr).2 s hs; omega⟩⟩
theorem pre_all {α : Type} {l : List α} {Q : α → Prop} (h : ∀ j x, j < l.length → l[j]? = some x → Q x) : ∀ x ∈ l, Q x := fun x hx => by
  obtain ⟨j, hj⟩ := List.getElem?_of_mem hx
  exact h j x (List.getElem?_eq_some_iff.1 hj).1 hj
def FewPost (L : List (List ByteArray)) (w : World) (e : Ending) (w' : World) : Prop := ∃ b, e = .returned (.bool b) ∧ (b = true ↔ Few L) ∧ w = w'
theorem FewPost.no {L : List (List ByteArray)} {w : World} (h : ¬ Few L) : FewPost L w (.returned (.bool false)) w := ⟨false, rfl, ⟨fun h => (by cases h), fun h2 => absurd h2 h⟩, rfl⟩
theorem FewPost.yes {L : List (List ByteArray)} {w : World} (h : Few L) : FewPost L w (.returned (.bool true)) w := ⟨true, rfl, ⟨fun _ => h, fun _ => rfl⟩, rfl⟩
set_option maxHeartbeats 2000000 in
theorem few_any (A : Option Addr) (n c : Nat) (L : List (List ByteArray)) (w : World) (hL : RowsR w w.heap.size A n L) (hn : n ≤ 9223372036854775807) :
    Calls Tryd.prog 17 #[.slice A n c] w (FewPost L w) := by
  have HL := Lib.hid hL
  have HLN := Lib.hid hL.len
  clear hL
  by_cases h20 : n ≤ 20
  · have hd : ¬ (20 : Int) < (n : Int) := by omega
    go_enter Tryd.func17, Tryd.ntmps17
    go_wp2_with fail
    go_loop [3, 4] (fun v3 _ => ∃ i : Nat, i ≤ n ∧ v3 = .int .i64 i ∧ Hid (∀ j r, j < i → L[j]? = some r → FewR r)) (fun v3 _ => n - (intOf v3).toNat)
    case atStart => exact ⟨0, Nat.zero_le _, rfl, fun j r h => by omega⟩
    case round =>
      obtain ⟨i, hi, rfl, HP⟩ := hrel
      by_cases hlt : i < n
      · have hiz : (i : Int) < (n : Int) := by omega
        have hiA : (0 : Int) ≤ (i : Int) := by omega
        obtain ⟨ad, r, RA, rn, rc, rfl, hadb, hr, hcr, hsr, hc1, hc2⟩ := HL.out.at_ hlt
        have HRR := Lib.hid hr
        have HRN := Lib.hid hsr.len
        have HSR := Lib.hid hsr
        clear hr hsr
        by_cases h12 : rn ≤ 12
        · have hd2 : ¬ (12 : Int) < (rn : Int) := by omega
          have HI := Lib.hid hlt
          go_wp2_with fail
          go_loop [4] (fun v4 => ∃ k : Nat, k ≤ rn ∧ v4 = .int .i64 k ∧ Hid (∀ j s, j < k → r[j]? = some s → s.size ≤ 60)) (fun v4 => rn - (intOf v4).toNat)
          case atStart => exact ⟨0, Nat.zero_le _, rfl, fun j r h => by omega⟩
          case round =>
            obtain ⟨k, hk, rfl, HQ⟩ := hrel
            by_cases hkl : k < rn
            · have hkz : (k : Int) < (rn : Int) := by omega
              have hkA : (0 : Int) ≤ (k : Int) := by omega
              obtain ⟨rd, s, rfl, hrb, hs, hcs⟩ := HSR.out.at_ hkl
              have HS := Lib.hid hs
              clear hs
              by_cases h60 : s.size ≤ 60
              · have hd3 : ¬ (60 : Int) < (s.size : Int) := by omega
                have HQ2 : Hid (∀ j s, j < k + 1 → r[j]? = some s → s.size ≤ 60) := fun j t hj ht => by
                  by_cases e : j = k
                  · subst e
                    have := HS.out
                    rw [ht] at this
                    cases this
                    exact h60
                  · exact HQ.out j t (by omega) ht
                go_wp2
                go_round
                case rel => exact ⟨k + 1, by omega, by go_num, HQ2⟩
                case measure => simp [intOf]; omega
              · have hd3 : (60 : Int) < (s.size : Int) := by omega
                have HN : Hid (¬ Few L) := fun hf => h60 ((hf.2 r (List.mem_of_getElem? HRR.out)).2 s (List.mem_of_getElem? HS.out))
                go_wp2
                go_ret
                exact FewPost.no HN.out
            · obtain rfl : rn = k := by omega
              have hkz : ¬ (rn : Int) < (rn : Int) := by omega
              have HP2 : Hid (∀ j r, j < i + 1 → L[j]? = some r → FewR r) := fun j t hj ht => by
                by_cases e : j = i
                · subst e
                  have := HRR.out
                  rw [ht] at this
                  cases this
                  exact ⟨by rw [HRN.out]; exact h12, pre_all fun j s hj hs => HQ.out j s (by rw [← HRN.out]; exact hj) hs⟩
                · exact HP.out j t (by omega) ht
              have hi1 : i + 1 ≤ n := HI.out
              go_wp2
              go_round
              case rel => exact ⟨i + 1, hi1, by go_num, HP2⟩
              case measure => have := HI.out; simp [intOf]; omega
        · have hd2 : (12 : Int) < (rn : Int) := by omega
          have HN : Hid (¬ Few L) := fun hf => h12 (by rw [← HRN.out]; exact (hf.2 r (List.mem_of_getElem? HRR.out)).1)
          go_wp2
          go_ret
          exact FewPost.no HN.out
      · obtain rfl : n = i := by omega
        have hiz : ¬ (n : Int) < (n : Int) := by omega
        have HN : Hid (Few L) := ⟨by rw [HLN.out]; exact h20, pre_all fun j r hj hr => HP.out j r (by rw [← HLN.out]; exact hj) hr⟩
        go_wp2
        go_ret
        exact FewPost.yes HN.out
  · have hd : (20 : Int) < (n : Int) := by omega
    have HN : Hid (¬ Few L) := fun hf => h20 (by rw [← HLN.out]; exact hf.1)
    go_enter Tryd.func17, Tryd.ntmps17
    go_wp2
    go_ret
    exact FewPost.no HN.out
theorem few_yes {A : Option Addr} {n c : Nat} {L : List (List ByteArray)} {w : World} (hL : RowsR w w.heap.size A n L) (hn : n ≤ 9223372036854775807) (h : Few L) :
    Calls Tryd.prog 17 #[.slice A n c] w fun e w' => e = .returned (.bool true) ∧ w = w' :=
  (few_any A n c L w hL hn).mono fun _ _ ⟨b, he, hb, hw⟩ => ⟨by rw [he, hb.2 h], hw⟩
theorem few_no {A : Option Addr} {n c : Nat} {L : List (List ByteArray)} {w : World} (hL : RowsR w w.heap.size A n L) (hn : n ≤ 9223372036854775807) (h : ¬ Few L) :
    Calls Tryd.prog 17 #[.slice A n c] w fun e w' => e = .returned (.bool false) ∧ w = w' :=
  (few_any A n c L w hL hn).mono fun _ _ ⟨b, he, hb, hw⟩ => ⟨by cases b with
    | false => exact he
    | true => exact absurd (hb.1 rfl) h, hw⟩
theorem cells_int : Tryd.prog.cellsOf 3 = 1 := by kernel_rfl
theorem eq_pair (a b : Int) (w : World) : (Op.equalIn 10000 40 (.agg #[.int .i64 a, .int .i64 b]) (.agg #[.int .i64 a, .int .i64 b])).run Tryd.prog w = .ok true w := by
  obtain ⟨i0, hi, _, _, _⟩ := info_parts info_int2
  rw [run_equalIn_array w 9999 _ _ Tryd.underlying40 hi, cells_int]
  have h1 : ∀ (W : World) (x : Int), (Op.equalIn 9999 3 (.int .i64 x) (.int .i64 x)).run Tryd.prog W = .ok true W := fun W x => by
    rw [run_equalIn_int W 9998 _ _ .i64 x x Tryd.underlying3, beq_self_eq_true]
  simp [Op.eqItems, List.range, List.range.loop, part, h1, Tryd.isAgg3, Tryd.sizeOf3]
set_option maxHeartbeats 2000000 in
theorem samePairs_any (A B : Option Addr) (n c d : Nat) (l : List (Nat × Nat)) (w : World) (ha : GR w w.heap.size A n l) (hb : GR w w.heap.size B n l) (hn : n ≤ 9223372036854775807) :
    Calls Tryd.prog 21 #[.slice A n c, .slice B n d] w fun e w' => e = .returned (.bool true) ∧ Below w.heap.size w w' := by
  have HA := Lib.hid ha
  have HB := Lib.hid hb
  clear ha hb
  go_enter Tryd.func21, Tryd.ntmps21
  go_wp2_with fail
  go_loopw [5] (fun v5 wr => ∃ k : Nat, k ≤ n ∧ v5 = .int .i64 k ∧ Hid (Below w.heap.size w wr)) (fun v5 _ => n - (intOf v5).toNat)
  case atStart => exact ⟨0, Nat.zero_le _, rfl, Below.refl _ _⟩
  case round =>
    obtain ⟨k, hk, rfl, HZ⟩ := hrel
    by_cases hlt : k < n
    · have hkz : (k : Int) < (n : Int) := by omega
      have hkA : (0 : Int) ≤ (k : Int) := by omega
      obtain ⟨ad, p, rfl, hab, hp, ha0, ha1⟩ := HA.out.at_ hlt
      obtain ⟨bd, q, rfl, hbb, hq0, hb0, hb1⟩ := HB.out.at_ hlt
      obtain rfl : p = q := by rw [hp] at hq0; exact Option.some.inj hq0
      clear hq0
      have q1 : ∀ r : BW wr, r.at_.cell? (ad.add (k * 2)) = some (.int .i64 (p.1 : Int)) := fun r => ((HZ.out.trans (r.bel.mono HZ.out.size)).cell (by rw [block_of_add]; exact hab)).trans ha0
      have q2 : ∀ r : BW wr, r.at_.cell? ⟨(ad.add (k * 2)).block, (ad.add (k * 2)).off + 1, none⟩ = some (.int .i64 (p.2 : Int)) := fun r => ((HZ.out.trans (r.bel.mono HZ.out.size)).cell (p := ⟨(ad.add (k * 2)).block, (ad.add (k * 2)).off + 1, none⟩) (by show (ad.add (k * 2)).block < _; rw [block_of_add]; exact hab)).trans ha1
      have q3 : ∀ r : BW wr, r.at_.cell? (bd.add (k * 2)) = some (.int .i64 (p.1 : Int)) := fun r => ((HZ.out.trans (r.bel.mono HZ.out.size)).cell (by rw [block_of_add]; exact hbb)).trans hb0
      have q4 : ∀ r : BW wr, r.at_.cell? ⟨(bd.add (k * 2)).block, (bd.add (k * 2)).off + 1, none⟩ = some (.int .i64 (p.2 : Int)) := fun r => ((HZ.out.trans (r.bel.mono HZ.out.size)).cell (p := ⟨(bd.add (k * 2)).block, (bd.add (k * 2)).off + 1, none⟩) (by show (bd.add (k * 2)).block < _; rw [block_of_add]; exact hbb)).trans hb1
      have hg := Tryd.eqGuardType40
      have hq : ∀ W : World, (Op.equalIn 10000 40 (.agg #[.int .i64 (p.1 : Int), .int .i64 (p.2 : Int)]) (.agg #[.int .i64 (p.1 : Int), .int .i64 (p.2 : Int)])).run Tryd.prog W = .ok true W := eq_pair _ _
      clear hp ha0 ha1 hb0 hb1
      go_wp2_with fail
      refine wp_region_quiet_below (by kernel_rfl) (by kernel_rfl) ?_
      repeat (go_big_quiet_step (fail))
      refine wpQuiet_nil ?_
      intro w1 hw'
      have hb1 := bw_below hw'
      have HZ1 : Hid (Below w.heap.size w w1) := HZ.out.trans (hb1.mono HZ.out.size)
      clear hw' hb1 q1 q2 q3 q4 hg hq
      go_wp2
      go_roundw
      case rel => exact ⟨k + 1, by omega, by go_num, HZ1⟩
      case measure => simp [intOf]; omega
    · obtain rfl : n = k := by omega
      have hkz : ¬ (n : Int) < (n : Int) := by omega
      go_wp2
      go_ret
      exact ⟨rfl, HZ.out⟩
end Go.Proofs.YtacfeabdeaikhaaDoor

/-
  The examples of the chapter, walked: awake returns true.
-/
namespace Go.Proofs.YtacfeabdeaikhaaDoor
open Go.RowKit Ru Lay
set_option linter.unusedVariables false
set_option linter.unusedSimpArgs false

def smp : List (List ByteArray) := [[⟨#[98, 97]⟩, ⟨#[109, 105]⟩], [⟨#[100, 111, 103]⟩, ⟨#[80, 76]⟩]]
theorem smp_sz : SzL smp := by
  refine ⟨by decide, fun r hr => ?_⟩
  simp [smp] at hr
  rcases hr with rfl | rfl
  · exact ⟨by decide, fun s hs => by simp at hs; rcases hs with rfl | rfl <;> decide⟩
  · exact ⟨by decide, fun s hs => by simp at hs; rcases hs with rfl | rfl <;> decide⟩
theorem smp_align : alignL smp = [⟨#[98, 97, 32, 32, 109, 105]⟩, ⟨#[100, 111, 103, 32, 80, 76]⟩] := by decide +kernel
theorem smp_cols : cols smp = [3, 2] := by decide +kernel
theorem smp_wrap : wrapL smp 3 = [⟨#[98, 97]⟩, ⟨#[100, 111, 103]⟩, ⟨#[]⟩, ⟨#[109, 105]⟩, ⟨#[80, 76]⟩] := by decide +kernel
theorem smp_groups : groups [3, 3, 9] 7 = [(0, 2), (2, 3)] := by decide +kernel
theorem smp_w1 : widB ⟨#[97, 204, 129, 98]⟩ = 2 := by decide +kernel
theorem smp_w2 : widB ⟨#[255, 254]⟩ = 2 := by decide +kernel
theorem smp_pad : padB ⟨#[97, 204, 129]⟩ 3 = ⟨#[97, 204, 129, 32, 32]⟩ := by decide +kernel
theorem rows_two (W : World) (e1 e2 e3 : TypeId) (r1 r2 : List ByteArray) (c1 c2 : Array Value) (n1 n2 : Nat) (h1 : c1.toList = r1.map .string) (h2 : c2.toList = r2.map .string) (l1 : n1 = r1.length) (l2 : n2 = r2.length) (z1 : n1 ≤ 1000) (z2 : n2 ≤ 1000) :
    RowsR (((W.alloc (.cells c1 e1)).alloc (.cells c2 e2)).alloc (.cells #[.slice (some ⟨W.heap.size, 0, none⟩) n1 n1, .slice (some ⟨W.heap.size + 1, 0, none⟩) n2 n2] e3))
      (((W.alloc (.cells c1 e1)).alloc (.cells c2 e2)).alloc (.cells #[.slice (some ⟨W.heap.size, 0, none⟩) n1 n1, .slice (some ⟨W.heap.size + 1, 0, none⟩) n2 n2] e3)).heap.size (some ⟨W.heap.size + 1 + 1, 0, none⟩) 2 [r1, r2] := by
  have s1 := sr_new W e1 r1 c1 h1 n1 l1
  generalize hW1 : W.alloc (.cells c1 e1) = W1 at s1 ⊢
  have y1 : W1.heap.size = W.heap.size + 1 := by rw [← hW1]; simp
  have s2 := sr_new W1 e2 r2 c2 h2 n2 l2
  have b2 := below_new W1 (.cells c2 e2)
  generalize hW2 : W1.alloc (.cells c2 e2) = W2 at s2 b2 ⊢
  have y2 : W2.heap.size = W1.heap.size + 1 := by rw [← hW2]; simp
  have s1b := SR.on s1 b2
  have b3 := below_new W2 (.cells #[.slice (some ⟨W.heap.size, 0, none⟩) n1 n1, .slice (some ⟨W.heap.size + 1, 0, none⟩) n2 n2] e3)
  have rn := reads_new W2 e3 #[.slice (some ⟨W.heap.size, 0, none⟩) n1 n1, .slice (some ⟨W.heap.size + 1, 0, none⟩) n2 n2]
  rw [y2, y1] at rn
  generalize hW3 : W2.alloc (.cells #[.slice (some ⟨W.heap.size, 0, none⟩) n1 n1, .slice (some ⟨W.heap.size + 1, 0, none⟩) n2 n2] e3) = W3 at b3 rn ⊢
  have s1c := SR.on s1b b3
  have s2c := SR.on s2 b3
  rw [y1] at s2c
  refine ⟨_, rn, rfl, fun i l hl => ?_⟩
  match i, hl with
  | 0, hl => simp at hl; subst hl; exact ⟨_, _, _, rfl, s1c, Nat.le_refl _, by omega⟩
  | 1, hl => simp at hl; subst hl; exact ⟨_, _, _, rfl, s2c, Nat.le_refl _, by omega⟩
theorem gr_new (w : World) (e : TypeId) (l : List (Nat × Nat)) (c : Array Value) (hc : c.toList = pairV l) (n : Nat) (hn : n = l.length) : GR (w.alloc (.cells c e)) (w.alloc (.cells c e)).heap.size (some ⟨w.heap.size, 0, none⟩) n l := by
  subst hn
  have h := reads_new w e c
  have e1 : c.size = l.length * 2 := by rw [← Array.length_toList, hc, pairV_len]
  refine ⟨⟨pairV_len l, fun _ => ?_⟩, rfl⟩
  by_cases h0 : 0 < c.size
  · obtain ⟨ad, e2, hb, hx⟩ := h.2 h0
    rw [hc] at hx
    exact ⟨ad, e2, hb, hx⟩
  · exfalso; omega
set_option maxHeartbeats 4000000 in
set_option maxRecDepth 100000 in
theorem awake_any (w : World) (hT : Tabs w) : Calls Tryd.prog 12 #[] w fun e w' => e = .returned (.bool true) ∧ Below w.heap.size w w' := by
  have HT := Lib.hid hT; clear hT
  obtain ⟨w0, hw0⟩ : ∃ w0, Hid (w = w0) := ⟨_, rfl⟩
  have HB0 : Hid (Below w.heap.size w w0) := by rw [← hw0.out]; exact Below.refl _ _
  rw [show Calls Tryd.prog 12 #[] w = Calls Tryd.prog 12 #[] w0 by rw [hw0.out]]
  go_enter Tryd.func12, Tryd.ntmps12
  go_wp2_with fail
  have hr := rows_two w0 9 9 36 [⟨#[98, 97]⟩, ⟨#[109, 105]⟩] [⟨#[100, 111, 103]⟩, ⟨#[80, 76]⟩] #[.string ⟨#[98, 97]⟩, .string ⟨#[109, 105]⟩] #[.string ⟨#[100, 111, 103]⟩, .string ⟨#[80, 76]⟩] 2 2 rfl rfl rfl rfl (by decide) (by decide)
  have hb : Below w0.heap.size w0 (((w0.alloc (.cells #[.string ⟨#[98, 97]⟩, .string ⟨#[109, 105]⟩] 9)).alloc (.cells #[.string ⟨#[100, 111, 103]⟩, .string ⟨#[80, 76]⟩] 9)).alloc (.cells #[.slice (some ⟨w0.heap.size, 0, none⟩) 2 2, .slice (some ⟨w0.heap.size + 1, 0, none⟩) 2 2] 36)) := (((Below.refl _ _).alloc (Nat.le_refl _) _).alloc (by simp) _).alloc (by simp; omega) _
  obtain ⟨w1, hw1⟩ : ∃ w1, ((w0.alloc (.cells #[.string ⟨#[98, 97]⟩, .string ⟨#[109, 105]⟩] 9)).alloc (.cells #[.string ⟨#[100, 111, 103]⟩, .string ⟨#[80, 76]⟩] 9)).alloc (.cells #[.slice (some ⟨w0.heap.size, 0, none⟩) 2 2, .slice (some ⟨w0.heap.size + 1, 0, none⟩) 2 2] 36) = w1 := ⟨_, rfl⟩
  rw [hw1] at hr hb ⊢
  obtain ⟨bk, hbk⟩ : ∃ bk, w0.heap.size + 1 + 1 = bk := ⟨_, rfl⟩
  rw [hbk] at hr ⊢
  have HR1 : Hid (RowsR w1 w1.heap.size (some ⟨bk, 0, none⟩) 2 smp) := hr
  have HB1 : Hid (Below w.heap.size w w1) := HB0.out.trans (hb.mono HB0.out.size)
  clear hr hb hw1 hbk
  go_wp2_with fail
  refine (align_any (some ⟨bk, 0, none⟩) 2 2 smp w1 HR1.out smp_sz (HT.out.on HB1.out)).mono ?_
  rw [smp_align]
  rintro e w2 ⟨v, rfl, hown, hb⟩
  obtain ⟨A2, c2, rfl, _, _, hs2⟩ := hown.form
  have HR2 := Lib.hid (HR1.out.on hb)
  have HS2 := Lib.hid hs2
  have HB2 : Hid (Below w.heap.size w w2) := HB1.out.trans (hb.mono HB1.out.size)
  clear hown hs2 hb
  go_wp2_with fail
  refine (equal_new (c := c2) w2 #[.string ⟨#[98, 97, 32, 32, 109, 105]⟩, .string ⟨#[100, 111, 103, 32, 80, 76]⟩] [⟨#[98, 97, 32, 32, 109, 105]⟩, ⟨#[100, 111, 103, 32, 80, 76]⟩] 9 HS2.out rfl (by decide)).mono ?_
  rintro e w3 ⟨rfl, hb⟩
  have HR3 := Lib.hid (HR2.out.on hb)
  have HB3 : Hid (Below w.heap.size w w3) := HB2.out.trans (hb.mono HB2.out.size)
  clear hb
  go_wp2_with fail
  have HI4 := Lib.hid (ir_new w3 3 [3, 3, 9] #[.int .i64 3, .int .i64 3, .int .i64 9] rfl 3 rfl)
  refine (groups_any (some ⟨w3.heap.size, 0, none⟩) 3 3 [3, 3, 9] 7 (w3.alloc (.cells #[.int .i64 3, .int .i64 3, .int .i64 9] 3)) HI4.out (by decide) (fun x hx => by simp at hx; omega) (by decide)).mono ?_
  rw [smp_groups]
  rintro e w4 ⟨v, rfl, hown, hb⟩
  obtain ⟨A4, c4, rfl, hg4⟩ := hown.form
  have hb4 : Below w3.heap.size w3 w4 := (below_new w3 _).trans (hb.mono (by simp))
  have HR4 := Lib.hid (HR3.out.on hb4)
  have HG4 := Lib.hid hg4
  have HB4 : Hid (Below w.heap.size w w4) := HB3.out.trans (hb4.mono HB3.out.size)
  clear hown hg4 hb hb4 HI4
  go_wp2_with fail
  have HG5 := Lib.hid (gr_new w4 40 [(0, 2), (2, 3)] #[.int .i64 0, .int .i64 2, .int .i64 2, .int .i64 3] rfl 2 rfl)
  refine (samePairs_any A4 (some ⟨w4.heap.size, 0, none⟩) 2 c4 2 [(0, 2), (2, 3)] (w4.alloc (.cells #[.int .i64 0, .int .i64 2, .int .i64 2, .int .i64 3] 40)) (HG4.out.on (below_new _ _)) HG5.out (by decide)).mono ?_
  rintro e w5 ⟨rfl, hb⟩
  have hb5 : Below w4.heap.size w4 w5 := (below_new w4 _).trans (hb.mono (by simp))
  have HR5 := Lib.hid (HR4.out.on hb5)
  have HB5 : Hid (Below w.heap.size w w5) := HB4.out.trans (hb5.mono HB4.out.size)
  clear hb hb5 HG5
  go_wp2_with fail
  refine (wrap_any (some ⟨bk, 0, none⟩) 2 2 smp 3 w5 HR5.out smp_sz (by decide) (HT.out.on HB5.out)).mono ?_
  rw [smp_wrap]
  rintro e w6 ⟨v, rfl, hown, hb⟩
  obtain ⟨A6, c6, rfl, _, _, hs6⟩ := hown.form
  have HR6 := Lib.hid (HR5.out.on hb)
  have HS6 := Lib.hid hs6
  have HB6 : Hid (Below w.heap.size w w6) := HB5.out.trans (hb.mono HB5.out.size)
  clear hown hs6 hb
  go_wp2_with fail
  refine (equal_new (c := c6) w6 #[.string ⟨#[98, 97]⟩, .string ⟨#[100, 111, 103]⟩, .string ⟨#[]⟩, .string ⟨#[109, 105]⟩, .string ⟨#[80, 76]⟩] [⟨#[98, 97]⟩, ⟨#[100, 111, 103]⟩, ⟨#[]⟩, ⟨#[109, 105]⟩, ⟨#[80, 76]⟩] 9 HS6.out rfl (by decide)).mono ?_
  rintro e w7 ⟨rfl, hb⟩
  have HR7 := Lib.hid (HR6.out.on hb)
  have HB7 : Hid (Below w.heap.size w w7) := HB6.out.trans (hb.mono HB6.out.size)
  clear hb
  go_wp2_with fail
  refine (columns_any (some ⟨bk, 0, none⟩) 2 2 smp w7 HR7.out smp_sz (HT.out.on HB7.out)).mono ?_
  rw [smp_cols]
  rintro e w8 ⟨v, rfl, hown, hb⟩
  obtain ⟨A8, c8, rfl, _, _, hs8⟩ := hown.form
  have HS8 := Lib.hid hs8
  have HB8 : Hid (Below w.heap.size w w8) := HB7.out.trans (hb.mono HB7.out.size)
  clear hown hs8 hb
  go_wp2_with fail
  refine (same_new (c := c8) w8 #[.int .i64 3, .int .i64 2] [3, 2] 3 HS8.out rfl (by decide)).mono ?_
  rintro e w9 ⟨rfl, hb⟩
  have HB9 : Hid (Below w.heap.size w w9) := HB8.out.trans (hb.mono HB8.out.size)
  clear hb
  go_wp2_with fail
  refine (width_any ⟨#[97, 204, 129, 98]⟩ w9 (by decide) (HT.out.on HB9.out)).mono ?_
  rw [smp_w1]
  rintro e w10 ⟨rfl, hb⟩
  have HB10 : Hid (Below w.heap.size w w10) := HB9.out.trans (hb.mono HB9.out.size)
  clear hb
  go_wp2_with fail
  refine (width_any ⟨#[255, 254]⟩ w10 (by decide) (HT.out.on HB10.out)).mono ?_
  rw [smp_w2]
  rintro e w11 ⟨rfl, hb⟩
  have HB11 : Hid (Below w.heap.size w w11) := HB10.out.trans (hb.mono HB10.out.size)
  clear hb
  go_wp2_with fail
  refine (pad_any ⟨#[97, 204, 129]⟩ 3 w11 (by decide) (HT.out.on HB11.out)).mono ?_
  rw [smp_pad]
  rintro e w12 ⟨rfl, hb⟩
  have HB12 : Hid (Below w.heap.size w w12) := HB11.out.trans (hb.mono HB11.out.size)
  clear hb
  go_wp2
  go_ret
  exact ⟨rfl, HB12.out⟩
end Go.Proofs.YtacfeabdeaikhaaDoor

/-
  The laws of the chapter on layout, walked: each returns true, and nothing that was there has changed.
-/
namespace Go.Proofs.YtacfeabdeaikhaaDoor
open Go.RowKit Ru Lay
set_option linter.unusedVariables false
set_option linter.unusedSimpArgs false

theorem SR.on' {w w' : World} {n : Nat} {A : Option Addr} {l : List ByteArray} (h : SR w w.heap.size A n l) (hb : Below w.heap.size w w') : SR w' w'.heap.size A n l := SR.on h hb
set_option maxHeartbeats 4000000 in
set_option maxRecDepth 100000 in
theorem width_law (s : ByteArray) (n : Int) (w : World)  (hT : Tabs w) :
    Calls Tryd.prog 3 #[.string s, .int .i64 n] w fun e w' => e = .returned (.bool true) ∧ Below w.heap.size w w' := by
  have HT := Lib.hid hT
  clear hT
  by_cases hs : s.size ≤ 2000
  · have hd : ¬ (2000 : Int) < (s.size : Int) := by omega
    have HB0 : Hid (Below w.heap.size w w) := Below.refl _ _
    go_enter Tryd.func3, Tryd.ntmps3
    go_wp2_with fail
    refine (width_any s w (by omega) HT.out).mono ?_
    rintro e w1 ⟨rfl, hb⟩
    have HB1 : Hid (Below w.heap.size w w1) := HB0.out.trans (hb.mono HB0.out.size)
    clear hb
    go_wp2_with fail
    refine (refWidth_any s w1 (by omega)).mono ?_
    rintro e w2 ⟨rfl, hb⟩
    have HB2 : Hid (Below w.heap.size w w2) := HB1.out.trans (hb.mono HB1.out.size)
    clear hb
    go_wp2_with fail
    refine (pad_any s n w2 (by omega) (HT.out.on HB2.out)).mono ?_
    rintro e w3 ⟨rfl, hb⟩
    have HB3 : Hid (Below w.heap.size w w3) := HB2.out.trans (hb.mono HB2.out.size)
    clear hb
    go_wp2_with fail
    refine (refPad_any s n w3 (by omega)).mono ?_
    rintro e w4 ⟨rfl, hb⟩
    have HB4 : Hid (Below w.heap.size w w4) := HB3.out.trans (hb.mono HB3.out.size)
    clear hb
    go_wp2_with fail
    refine (awake_any _ (HT.out.on HB4.out)).mono ?_
    rintro e wz ⟨rfl, hbz⟩
    go_wp2
    go_ret
    exact ⟨rfl, HB4.out.trans (hbz.mono HB4.out.size)⟩
  · have hd : (2000 : Int) < (s.size : Int) := by omega
    go_enter Tryd.func3, Tryd.ntmps3
    go_wp2_with fail
    refine (awake_any _ HT.out).mono ?_
    rintro e wz ⟨rfl, hbz⟩
    go_wp2
    go_ret
    exact ⟨rfl, hbz⟩
set_option maxHeartbeats 4000000 in
set_option maxRecDepth 100000 in
theorem columns_law (A : Option Addr) (n c : Nat) (L : List (List ByteArray)) (w : World) (hL : RowsR w w.heap.size A n L) (hn : n ≤ 9223372036854775807) (hT : Tabs w) :
    Calls Tryd.prog 4 #[.slice A n c] w fun e w' => e = .returned (.bool true) ∧ Below w.heap.size w w' := by
  have HT := Lib.hid hT
  clear hT
  have HL := Lib.hid hL
  clear hL
  by_cases hf : Few L
  · have HF := Lib.hid (few_yes (c := c) HL.out hn hf)
    have HZ := Lib.hid hf.sz
    have HN := Lib.hid hf.1
    clear hf
    have HB0 : Hid (Below w.heap.size w w) := Below.refl _ _
    go_enter Tryd.func4, Tryd.ntmps4
    go_wp2_with fail
    refine HF.out.mono ?_
    rintro e w1 ⟨rfl, rfl⟩
    go_wp2_with fail
    refine (columns_any A n c L w HL.out HZ.out HT.out).mono ?_
    rintro e w1 ⟨v, rfl, hown, hb⟩
    obtain ⟨A1, c1, rfl, _, _, hs⟩ := hown.form
    have HS1 := Lib.hid hs
    have HB1 : Hid (Below w.heap.size w w1) := HB0.out.trans (hb.mono HB0.out.size)
    clear hown hs hb
    go_wp2_with fail
    refine (refColumns_any A n c L w1 (HL.out.on HB1.out) HZ.out).mono ?_
    rintro e w2 ⟨v, rfl, hown, hb⟩
    obtain ⟨A2, c2, rfl, _, _, hs⟩ := hown.form
    have HS2 := Lib.hid hs
    have HB2 : Hid (Below w.heap.size w w2) := HB1.out.trans (hb.mono HB1.out.size)
    have HS1' := Lib.hid (IR.on HS1.out hb)
    clear HS1
    have HS1 := HS1'
    clear HS1'
    clear hown hs hb
    have HSM := Lib.hid (same_ints A1 A2 (cols L).length (cols L).length c1 c2 _ _ w2 HS1.out HS2.out (by rw [cols_len]; have := HZ.out.nmax; omega) (by rw [cols_len]; have := HZ.out.nmax; omega))
    rw [beq_self_eq_true] at HSM
    go_wp2_with fail
    refine HSM.out.mono ?_
    rintro e w3 ⟨rfl, k, rfl⟩
    have HB3 : Hid (Below w.heap.size w (w2.drewN k)) := below_drewN HB2.out _
    go_wp2_with fail
    refine (awake_any _ (HT.out.on HB3.out)).mono ?_
    rintro e wz ⟨rfl, hbz⟩
    go_wp2
    go_ret
    exact ⟨rfl, HB3.out.trans (hbz.mono HB3.out.size)⟩
  · have HF := Lib.hid (few_no (c := c) HL.out hn hf)
    clear hf
    go_enter Tryd.func4, Tryd.ntmps4
    go_wp2_with fail
    refine HF.out.mono ?_
    rintro e w1 ⟨rfl, rfl⟩
    go_wp2_with fail
    refine (awake_any _ HT.out).mono ?_
    rintro e wz ⟨rfl, hbz⟩
    go_wp2
    go_ret
    exact ⟨rfl, hbz⟩
set_option maxHeartbeats 4000000 in
set_option maxRecDepth 100000 in
theorem aligns_law (A : Option Addr) (n c : Nat) (L : List (List ByteArray)) (w : World) (hL : RowsR w w.heap.size A n L) (hn : n ≤ 9223372036854775807) (hT : Tabs w) :
    Calls Tryd.prog 6 #[.slice A n c] w fun e w' => e = .returned (.bool true) ∧ Below w.heap.size w w' := by
  have HT := Lib.hid hT
  clear hT
  have HL := Lib.hid hL
  clear hL
  by_cases hf : Few L
  · have HF := Lib.hid (few_yes (c := c) HL.out hn hf)
    have HZ := Lib.hid hf.sz
    have HN := Lib.hid hf.1
    clear hf
    have HB0 : Hid (Below w.heap.size w w) := Below.refl _ _
    go_enter Tryd.func6, Tryd.ntmps6
    go_wp2_with fail
    refine HF.out.mono ?_
    rintro e w1 ⟨rfl, rfl⟩
    go_wp2_with fail
    refine (align_any A n c L w HL.out HZ.out HT.out).mono ?_
    rintro e w1 ⟨v, rfl, hown, hb⟩
    obtain ⟨A1, c1, rfl, _, _, hs⟩ := hown.form
    have HS1 := Lib.hid hs
    have HB1 : Hid (Below w.heap.size w w1) := HB0.out.trans (hb.mono HB0.out.size)
    clear hown hs hb
    go_wp2_with fail
    refine (refAlign_any A n c L w1 (HL.out.on HB1.out) HZ.out).mono ?_
    rintro e w2 ⟨v, rfl, hown, hb⟩
    obtain ⟨A2, c2, rfl, _, _, hs⟩ := hown.form
    have HS2 := Lib.hid hs
    have HB2 : Hid (Below w.heap.size w w2) := HB1.out.trans (hb.mono HB1.out.size)
    have HS1' := Lib.hid (SR.on HS1.out hb)
    clear HS1
    have HS1 := HS1'
    clear HS1'
    clear hown hs hb
    have hal := alignL_len L
    have HSM := Lib.hid (equal_strs A1 A2 (alignL L).length (alignL L).length c1 c2 _ _ w2 HS1.out HS2.out (by rw [hal]; have := HN.out; omega) (by rw [hal]; have := HN.out; omega))
    rw [decide_eq_true rfl] at HSM
    clear hal
    go_wp2_with fail
    refine HSM.out.mono ?_
    rintro e w3 ⟨rfl, k, rfl⟩
    have HB3 : Hid (Below w.heap.size w (w2.drewN k)) := below_drewN HB2.out _
    go_wp2_with fail
    refine (awake_any _ (HT.out.on HB3.out)).mono ?_
    rintro e wz ⟨rfl, hbz⟩
    go_wp2
    go_ret
    exact ⟨rfl, HB3.out.trans (hbz.mono HB3.out.size)⟩
  · have HF := Lib.hid (few_no (c := c) HL.out hn hf)
    clear hf
    go_enter Tryd.func6, Tryd.ntmps6
    go_wp2_with fail
    refine HF.out.mono ?_
    rintro e w1 ⟨rfl, rfl⟩
    go_wp2_with fail
    refine (awake_any _ HT.out).mono ?_
    rintro e wz ⟨rfl, hbz⟩
    go_wp2
    go_ret
    exact ⟨rfl, hbz⟩
set_option maxHeartbeats 4000000 in
set_option maxRecDepth 100000 in
theorem groups_law (A : Option Addr) (n c : Nat) (l : List Int) (W : Int) (w : World) (hl : IR w w.heap.size A n l) (hn : n ≤ 9223372036854775807) (hr : ∀ x ∈ l, -9223372036854775808 ≤ x ∧ x ≤ 9223372036854775807) (hW : W ≤ 9223372036854775807) (hT : Tabs w) :
    Calls Tryd.prog 5 #[.slice A n c, .int .i64 W] w fun e w' => e = .returned (.bool true) ∧ Below w.heap.size w w' := by
  have HT := Lib.hid hT
  clear hT
  have HL := Lib.hid hl
  have HR : Hid (∀ x ∈ l, x ≤ 9223372036854775807) := fun x hx => (hr x hx).2
  clear hl hr
  by_cases hs : n ≤ 60
  · have hd : ¬ (60 : Int) < (n : Int) := by omega
    have HB0 : Hid (Below w.heap.size w w) := Below.refl _ _
    go_enter Tryd.func5, Tryd.ntmps5
    go_wp2_with fail
    refine (groups_any A n c l W w HL.out (by omega) HR.out hW).mono ?_
    rintro e w1 ⟨v, rfl, hown, hb⟩
    obtain ⟨A1, c1, rfl, hg⟩ := hown.form
    have HG1 := Lib.hid hg
    have HB1 : Hid (Below w.heap.size w w1) := hb
    clear hown hg hb
    go_wp2_with fail
    refine (refGroups_any A n c l W w1 (IR.on HL.out HB1.out) (by omega) HR.out hW).mono ?_
    rintro e w2 ⟨v, rfl, hown, hb⟩
    obtain ⟨A2, c2, rfl, hg⟩ := hown.form
    have HG2 := Lib.hid hg
    have HG3 := Lib.hid (HG1.out.on hb)
    have HB2 : Hid (Below w.heap.size w w2) := HB1.out.trans (hb.mono HB1.out.size)
    clear hown hg hb
    have hgl := groups_len l W
    have hln := HL.out.len
    have HSM := Lib.hid (samePairs_any A1 A2 (groups l W).length c1 c2 (groups l W) w2 HG3.out HG2.out (by omega))
    clear hgl hln
    go_wp2_with fail
    refine HSM.out.mono ?_
    rintro e w3 ⟨rfl, hb⟩
    have HB3 : Hid (Below w.heap.size w w3) := HB2.out.trans (hb.mono HB2.out.size)
    clear hb
    go_wp2_with fail
    refine (awake_any _ (HT.out.on HB3.out)).mono ?_
    rintro e wz ⟨rfl, hbz⟩
    go_wp2
    go_ret
    exact ⟨rfl, HB3.out.trans (hbz.mono HB3.out.size)⟩
  · have hd : (60 : Int) < (n : Int) := by omega
    go_enter Tryd.func5, Tryd.ntmps5
    go_wp2_with fail
    refine (awake_any _ HT.out).mono ?_
    rintro e wz ⟨rfl, hbz⟩
    go_wp2
    go_ret
    exact ⟨rfl, hbz⟩
theorem ex_self (s : ByteArray) : s.extract 0 s.size = s := ba_ext (by rw [Lib.extract_data]; simp; exact List.take_of_length_le (by rw [← Lib.size_eq]; exact Nat.le_refl _))
theorem ex_app (s t : ByteArray) : (s ++ t).extract 0 s.size = s := ba_ext (by rw [Lib.extract_data]; simp)
theorem app_at {s t : ByteArray} {i : Nat} {b : UInt8} (h : s.size ≤ i) (hi : i < (s ++ t).size) (ht : ∀ x ∈ t.data.toList, x = b) : (s ++ t)[i] = b := by
  have h1 : (s ++ t).data.toList[i]? = some (s ++ t)[i] := by
    rw [List.getElem?_eq_getElem (by rw [← Lib.size_eq]; exact hi)]
    rfl
  rw [app_data, List.getElem?_append_right (by rw [← Lib.size_eq]; exact h)] at h1
  exact ht _ (List.mem_of_getElem? h1)
set_option maxHeartbeats 4000000 in
set_option maxRecDepth 100000 in
theorem pads_law (s : ByteArray) (n : Int) (w : World)  (hT : Tabs w) :
    Calls Tryd.prog 8 #[.string s, .int .i64 n] w fun e w' => e = .returned (.bool true) ∧ Below w.heap.size w w' := by
  have HT := Lib.hid hT
  clear hT
  by_cases hs : s.size ≤ 2000
  · have hd : ¬ (2000 : Int) < (s.size : Int) := by omega
    have HB0 : Hid (Below w.heap.size w w) := Below.refl _ _
    have HP := Lib.hid (pad_any s n w (by omega) HT.out)
    have hps := padB_size s n
    have HW1 := Lib.hid fun W (hb : Below w.heap.size w W) => width_any s W (by omega) (HT.out.on hb)
    have HW2 := Lib.hid fun W (hb : Below w.heap.size w W) => width_any (padB s n) W (by omega) (HT.out.on hb)
    by_cases hn : 4000 < n ∨ n ≤ (widB s : Int)
    · have hpe := padB_id hn
      rw [hpe] at HP HW2 hps
      have hex := ex_self s
      have hle : s.size ≤ s.size := Nat.le_refl _
      obtain ⟨t, ht⟩ : ∃ t, t = s := ⟨_, rfl⟩
      rw [← ht] at hex hle
      have HE := Lib.hid hex
      obtain ⟨k, hk⟩ : ∃ k, widB s = k := ⟨_, rfl⟩
      rw [hk] at hn HW1
      subst ht
      clear hpe hk
      have hsz : ¬ (t.size : Int) < (t.size : Int) := by omega
      have hbeq : ((t.extract 0 t.size).toList == t.toList) = true := by rw [HE.out]; exact beq_self_eq_true _
      have hbne : ((t.extract 0 t.size).toList != t.toList) = false := by rw [HE.out]; exact bne_self_eq_false _
      have HBL : Hid (∀ (i : Nat) (h1 : t.size ≤ i) (h2 : i < t.size), t[i] = 32) := fun i h1 h2 => by omega
      by_cases h4 : 4000 < n
      all_goals
        go_enter Tryd.func8, Tryd.ntmps8
        go_wp2_with fail
        refine (HP.out).mono ?_
        rintro e w1 ⟨rfl, hb⟩
        have HB1 : Hid (Below w.heap.size w w1) := HB0.out.trans (hb.mono HB0.out.size)
        clear hb
        go_wp2_with fail
        go_loop [6] (fun v6 => ∃ i : Nat, t.size ≤ i ∧ i ≤ t.size ∧ v6 = .int .i64 i) (fun v6 => t.size - (intOf v6).toNat)
        case atStart => exact ⟨t.size, Nat.le_refl _, hle, rfl⟩
        case round =>
          obtain ⟨i, hi1, hi2, rfl⟩ := hrel
          by_cases hlt : i < t.size
          · have hiz : (i : Int) < (t.size : Int) := by omega
            have hiA : (0 : Int) ≤ (i : Int) := by omega
            have hb := HBL.out i hi1 hlt
            have hbb : ((t[i].toNat : Int) != 32) = false := by rw [hb]; rfl
            have hbc : ((t[i].toNat : Int) == 32) = true := by rw [hb]; rfl
            clear hb
            go_wp2
            go_round
            case rel => exact ⟨i + 1, by omega, by omega, by go_num⟩
            case measure => simp [intOf]; omega
          · obtain rfl : i = t.size := by omega
            have hiz : ¬ (t.size : Int) < (t.size : Int) := by omega
            go_wp2_with fail
            refine (HW1.out _ HB1.out).mono ?_
            rintro e w2 ⟨rfl, hb⟩
            have HB2 : Hid (Below w.heap.size w w2) := HB1.out.trans (hb.mono HB1.out.size)
            clear hb
            have hcz : n ≤ (k : Int) ∨ 4000 < n := by omega
            go_wp2_with fail
            refine (awake_any _ (HT.out.on HB2.out)).mono ?_
            rintro e wz ⟨rfl, hbz⟩
            go_wp2
            go_ret
            exact ⟨rfl, HB2.out.trans (hbz.mono HB2.out.size)⟩
    · obtain ⟨m, hm⟩ : ∃ m : Nat, n = (widB s : Int) + (m : Int) := ⟨(n - widB s).toNat, by omega⟩
      have hpe : s ++ strL (sp m) = padB s n := pad_go rfl hm.symm (by omega)
      have hww : (widB (padB s n) : Int) = n := pad_wid (s := s.data.toList) (by show (widB s : Int) ≤ n; omega) (by omega) |> fun h => by
        unfold padB widB
        rw [strL_data]
        exact h
      have hex := ex_app s (strL (sp m))
      have hle : s.size ≤ (s ++ strL (sp m)).size := by rw [Lib.size_eq, Lib.size_eq, app_data, List.length_append]; omega
      have hbl : ∀ (i : Nat) (h1 : s.size ≤ i) (h2 : i < (s ++ strL (sp m)).size), (s ++ strL (sp m))[i] = 32 := fun i h1 h2 => app_at h1 h2 (fun x hx => by
        rw [strL_data] at hx
        exact (List.mem_replicate.1 hx).2)
      rw [hpe] at hex hle hbl
      obtain ⟨t, ht⟩ : ∃ t, padB s n = t := ⟨_, rfl⟩
      rw [ht] at HP HW2 hww hex hle hbl hps
      have HBL : Hid (∀ (i : Nat) (h1 : s.size ≤ i) (h2 : i < t.size), t[i] = 32) := hbl
      have HE := Lib.hid hex
      have HWW := Lib.hid hww
      obtain ⟨k, hk⟩ : ∃ k, widB s = k := ⟨_, rfl⟩
      rw [hk] at hn HW1
      obtain ⟨k2, hk2⟩ : ∃ k2, widB t = k2 := ⟨_, rfl⟩
      rw [hk2] at HW2 HWW
      clear hpe hk hk2 ht hm hww hex hbl
      have hsz : ¬ (t.size : Int) < (s.size : Int) := by omega
      have hszz : (s.size : Int) ≤ (t.size : Int) := by omega
      have hbeq : ((t.extract 0 s.size).toList == s.toList) = true := by rw [HE.out]; exact beq_self_eq_true _
      have hbne : ((t.extract 0 s.size).toList != s.toList) = false := by rw [HE.out]; exact bne_self_eq_false _
      have h4 : ¬ 4000 < n := by omega
      have h5 : ¬ n ≤ (k : Int) := by omega
      go_enter Tryd.func8, Tryd.ntmps8
      go_wp2_with fail
      refine (HP.out).mono ?_
      rintro e w1 ⟨rfl, hb⟩
      have HB1 : Hid (Below w.heap.size w w1) := HB0.out.trans (hb.mono HB0.out.size)
      clear hb
      go_wp2_with fail
      go_loop [6] (fun v6 => ∃ i : Nat, s.size ≤ i ∧ i ≤ t.size ∧ v6 = .int .i64 i) (fun v6 => t.size - (intOf v6).toNat)
      case atStart => exact ⟨s.size, Nat.le_refl _, hle, rfl⟩
      case round =>
        obtain ⟨i, hi1, hi2, rfl⟩ := hrel
        by_cases hlt : i < t.size
        · have hiz : (i : Int) < (t.size : Int) := by omega
          have hiA : (0 : Int) ≤ (i : Int) := by omega
          have hb := HBL.out i hi1 hlt
          have hbb : ((t[i].toNat : Int) != 32) = false := by rw [hb]; rfl
          have hbc : ((t[i].toNat : Int) == 32) = true := by rw [hb]; rfl
          clear hb
          go_wp2
          go_round
          case rel => exact ⟨i + 1, by omega, by omega, by go_num⟩
          case measure => simp [intOf]; omega
        · obtain rfl : i = t.size := by omega
          have hiz : ¬ (t.size : Int) < (t.size : Int) := by omega
          go_wp2_with fail
          refine (HW1.out _ HB1.out).mono ?_
          rintro e w2 ⟨rfl, hb⟩
          have HB2 : Hid (Below w.heap.size w w2) := HB1.out.trans (hb.mono HB1.out.size)
          clear hb
          go_wp2_with fail
          refine (HW2.out _ HB2.out).mono ?_
          rintro e w3 ⟨rfl, hb⟩
          have HB3 : Hid (Below w.heap.size w w3) := HB2.out.trans (hb.mono HB2.out.size)
          clear hb
          have heq : ((k2 : Int) == n) = true := beq_iff_eq.2 HWW.out
          go_wp2_with fail
          refine (awake_any _ (HT.out.on HB3.out)).mono ?_
          rintro e wz ⟨rfl, hbz⟩
          go_wp2
          go_ret
          exact ⟨rfl, HB3.out.trans (hbz.mono HB3.out.size)⟩
  · have hd : (2000 : Int) < (s.size : Int) := by omega
    go_enter Tryd.func8, Tryd.ntmps8
    go_wp2_with fail
    refine (awake_any _ HT.out).mono ?_
    rintro e wz ⟨rfl, hbz⟩
    go_wp2
    go_ret
    exact ⟨rfl, hbz⟩
end Go.Proofs.YtacfeabdeaikhaaDoor
