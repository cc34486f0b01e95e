import Derived.Test.YtdpllfgnppeneaaGreatDoorG02
import Derived.Test.YtdpllfgnppeneaaGreatDoorG00
import Derived.Maps.AppendAt
import Derived.OwnWalk
import Derived.IntWalk
namespace Go.Proofs.YtdpllfgnppeneaaGreatDoor
open Go.RowKit
set_option linter.unusedVariables false
set_option linter.unusedSimpArgs false

theorem drop_cons_at (s : ByteArray) (at_ : Nat) (h : at_ < s.size) : s.data.toList.drop at_ = s[at_] :: s.data.toList.drop (at_ + 1) := by
  rw [List.drop_eq_getElem_cons (by rw [← Lib.size_eq]; exact h)]
  rfl
theorem extract_mid (s : ByteArray) (a n : Nat) : (s.extract a (a + n)).data.toList = (s.data.toList.drop a).take n := by
  rw [Lib.extract_data]
  congr 1
  omega
theorem strL_list (l : List UInt8) : (strL l).toList = l := by rw [Lib.toList_data]; simp [strL]
theorem cont_bound {p0 : Nat} {l : List UInt8} (hp : p0 < 256) (hl : l.length ≤ 3) : Ru.cont p0 l < 67371008 := by
  refine Nat.lt_of_lt_of_le (Ru.cont_lt p0 l) ?_
  have h1 : 64 ^ l.length ≤ 64 ^ 3 := Nat.pow_le_pow_right (by omega) hl
  have h2 : (p0 + 1) * 64 ^ l.length ≤ 257 * 64 ^ 3 := Nat.mul_le_mul (by omega) h1
  exact Nat.le_trans h2 (by decide)
theorem cont_next (s : ByteArray) (p0 at_ k : Nat) (hk : 1 ≤ k) (h : at_ + k < s.size) :
    Ru.cont p0 ((s.data.toList.drop (at_ + 1)).take (k + 1 - 1)) = Ru.cont p0 ((s.data.toList.drop (at_ + 1)).take (k - 1)) * 64 + (s[at_ + k]'h).toNat % 64 := by
  have e : (s.data.toList.drop (at_ + 1)).take (k + 1 - 1) = (s.data.toList.drop (at_ + 1)).take (k - 1) ++ [s[at_ + k]'h] := by
    rw [show k + 1 - 1 = (k - 1) + 1 by omega, List.take_add_one]
    congr 1
    rw [List.getElem?_drop, show at_ + 1 + (k - 1) = at_ + k by omega, List.getElem?_eq_getElem (by rw [← Lib.size_eq]; exact h)]
    rfl
  rw [e, Ru.cont_snoc]
theorem lead_cases (b : Nat) : ∃ p0 n0, Hid (Ru.lead b = (p0, n0)) ∧ ((240 ≤ b ∧ p0 + 240 = b ∧ n0 = 4) ∨ (b < 240 ∧ 224 ≤ b ∧ p0 + 224 = b ∧ n0 = 3) ∨ (b < 224 ∧ 192 ≤ b ∧ p0 + 192 = b ∧ n0 = 2) ∨ (b < 192 ∧ p0 = b ∧ n0 = 1)) := by
  by_cases h1 : 240 ≤ b
  · exact ⟨b - 240, 4, (show Ru.lead b = _ by unfold Ru.lead; rw [if_pos h1]), .inl ⟨h1, by omega, rfl⟩⟩
  · by_cases h2 : 224 ≤ b
    · exact ⟨b - 224, 3, (show Ru.lead b = _ by unfold Ru.lead; rw [if_neg h1, if_pos h2]), .inr (.inl ⟨by omega, h2, by omega, rfl⟩)⟩
    · by_cases h3 : 192 ≤ b
      · exact ⟨b - 192, 2, (show Ru.lead b = _ by unfold Ru.lead; rw [if_neg h1, if_neg h2, if_pos h3]), .inr (.inr (.inl ⟨by omega, h3, by omega, rfl⟩))⟩
      · exact ⟨b, 1, (show Ru.lead b = _ by unfold Ru.lead; rw [if_neg h1, if_neg h2, if_neg h3]), .inr (.inr (.inr ⟨by omega, rfl, rfl⟩))⟩
/-- What 'first' hands back. -/
def firstV (o : Option (Nat × Nat)) : Value :=
  match o with
  | none => .tuple #[.int .i64 (-1), .int .i64 0]
  | some (p, n) => .tuple #[.int .i64 p, .int .i64 n]

set_option maxRecDepth 1000000 in
set_option maxHeartbeats 4000000 in
theorem first02_any (s : ByteArray) (at_ : Nat) (w : World) (hr : at_ < s.size) (hs : s.size ≤ 1099511627776) :
    Calls Tryz.prog 88 #[.string s, .int .i64 at_] w fun e w' => e = .returned (firstV (Ru.firstL (s.data.toList.drop at_))) ∧ Below w.heap.size w w' := by
  have hb0 : (s[at_]'hr).toNat < 256 := UInt8.toNat_lt _
  obtain ⟨p0, n0, HL, hcase⟩ : ∃ p0 n0, Hid (Ru.lead (s[at_]'hr).toNat = (p0, n0)) ∧ ((240 ≤ (s[at_]'hr).toNat ∧ p0 + 240 = (s[at_]'hr).toNat ∧ n0 = 4) ∨ ((s[at_]'hr).toNat < 240 ∧ 224 ≤ (s[at_]'hr).toNat ∧ p0 + 224 = (s[at_]'hr).toNat ∧ n0 = 3) ∨
      ((s[at_]'hr).toNat < 224 ∧ 192 ≤ (s[at_]'hr).toNat ∧ p0 + 192 = (s[at_]'hr).toNat ∧ n0 = 2) ∨ ((s[at_]'hr).toNat < 192 ∧ p0 = (s[at_]'hr).toNat ∧ n0 = 1)) := by
    exact lead_cases _
  have HD := Lib.hid (drop_cons_at s at_ hr)
  have hp0 : p0 < 256 := by have := Ru.lead_lt hb0; rw [HL.out] at this; exact this
  have HF : Hid (∀ p, p = Ru.cont p0 ((s.data.toList.drop (at_ + 1)).take (n0 - 1)) → Ru.firstL (s.data.toList.drop at_) = if n0 ≤ (s.data.toList.drop (at_ + 1)).length + 1 ∧ Ru.scalarB p = true ∧ Ru.encL p = (s.data.toList.drop at_).take n0 then some (p, n0) else none) := fun p hp => by
    rw [HD.out]
    simp only [Ru.firstL, HL.out]
    rw [← hp]
  have HLEN : Hid ((s.data.toList.drop (at_ + 1)).length + 1 = s.size - at_) := by
    show _ = _
    rw [List.length_drop, ← Lib.size_eq]
    omega
  clear HL
  rcases hcase with ⟨g1, g2, rfl⟩ | ⟨g0, g1, g2, rfl⟩ | ⟨g0, g1, g2, rfl⟩ | ⟨g0, g2, rfl⟩
  · by_cases hfit : at_ + 4 ≤ s.size
    · have hfz : ¬ (s.size : Int) < (at_ : Int) + 4 := by omega
      go_enter Tryz.func88, Tryz.ntmps88
      go_wp2_with fail
      go_loop [6, 8] (fun vp vi => ∃ (k p : Nat), 1 ≤ k ∧ k ≤ 4 ∧ vi = .int .i64 k ∧ vp = .int .i64 p ∧ Hid (p = Ru.cont p0 ((s.data.toList.drop (at_ + 1)).take (k - 1)))) (fun _ vi => 4 - (intOf vi).toNat)
      case atStart => exact ⟨1, p0, by omega, by omega, rfl, by first | rfl | (congr 1; omega), rfl⟩
      case round =>
        obtain ⟨k, p, hk1, hk2, rfl, rfl, HP⟩ := hrel
        have hpb : p < 67371008 := by rw [HP.out]; exact cont_bound hp0 (by simp; omega)
        by_cases hlt : k < 4
        · have hltz : (k : Int) < 4 := by omega
          have hix : at_ + k < s.size := by omega
          have hbk : (s[at_ + k]'hix).toNat < 256 := UInt8.toNat_lt _
          have HN : Hid (p * 64 + (s[at_ + k]'hix).toNat % 64 = Ru.cont p0 ((s.data.toList.drop (at_ + 1)).take (k + 1 - 1))) := by
            show _ = _
            have := cont_next s p0 at_ k hk1 hix
            rw [this, ← HP.out]
          go_wp2
          go_round
          case rel => exact ⟨k + 1, p * 64 + (s[at_ + k]'hix).toNat % 64, by omega, by omega, by go_num, by first | rfl | (congr 1; omega), HN⟩
          case measure => simp [intOf]; omega
        · have hltz : ¬ (k : Int) < 4 := by omega
          obtain rfl : k = 4 := by omega
          have HFP := Lib.hid (HF.out p HP.out)
          have hsc := fun W => (scalar_any (p : Int) W).mono (R' := fun e w' => e = .returned (.bool (Ru.scalarB p)) ∧ W = w') (fun _ _ h => h)
          obtain ⟨sb, hsb⟩ : ∃ sb, Hid (Ru.scalarB p = sb) := ⟨_, rfl⟩
          rw [hsb.out] at hsc
          have HSC := Lib.hid hsc; clear hsc
          cases sb with
          | false =>
            have HR : Hid (Ru.firstL (s.data.toList.drop at_) = none) := by
              show _ = _
              rw [HFP.out, if_neg (fun h => by rw [hsb.out] at h; cases h.2.1)]
            go_wp2_with fail
            refine wp_region_quiet_below (by kernel_rfl) (by kernel_rfl) ?_
            repeat (go_big_quiet_step ((first | (go_at_call 100; exact same_quiet (HSC.out _)))))
            refine wpQuiet_nil ?_
            intro w2 hw'
            have hb2 := Lib.hid (bw_below hw')
            clear hw'
            go_wp2
            go_ret2
            exact ⟨by rw [HR.out]; rfl, hb2.out⟩
          | true =>
            have hp1 : p ≤ 1114111 := by have := hsb.out; simp [Ru.scalarB] at this; omega
            have HEN : Hid (∀ W : World, Calls Tryz.prog 101 #[.int .i64 p] W fun e w' => e = .returned (.string (strL (Ru.encL p))) ∧ Below W.heap.size W w') := fun W => encoded_any p W hp1
            have hx1 : (at_ : Int) ≤ (at_ : Int) + 4 := by omega
            have hx2 : (at_ : Int) + 4 ≤ (s.size : Int) := by omega
            by_cases heq : Ru.encL p = (s.data.toList.drop at_).take 4
            · have hbeq : ((strL (Ru.encL p)).toList == (s.extract at_ (at_ + 4)).toList) = true := by
                rw [strL_list, Lib.toList_data, extract_mid, heq]
                exact beq_self_eq_true _
              have HR : Hid (Ru.firstL (s.data.toList.drop at_) = some (p, 4)) := by
                show _ = _
                rw [HFP.out, if_pos ⟨by rw [HLEN.out]; omega, hsb.out, heq⟩]
              clear heq
              go_wp2_with fail
              refine wp_region_quiet_below (by kernel_rfl) (by kernel_rfl) ?_
              repeat (go_big_quiet_step ((first | (go_at_call 100; exact same_quiet (HSC.out _)) | (go_at_call 101; exact below_quiet (HEN.out _)))))
              refine wpQuiet_nil ?_
              intro w2 hw'
              have hb2 := Lib.hid (bw_below hw')
              clear hw'
              go_wp2
              go_ret2
              exact ⟨by rw [HR.out]; rfl, hb2.out⟩
            · have hbeq : ((strL (Ru.encL p)).toList == (s.extract at_ (at_ + 4)).toList) = false := by
                rw [strL_list, Lib.toList_data, extract_mid]
                exact beq_eq_false_iff_ne.2 heq
              have HR : Hid (Ru.firstL (s.data.toList.drop at_) = none) := by
                show _ = _
                rw [HFP.out, if_neg (fun h => heq h.2.2)]
              clear heq
              go_wp2_with fail
              refine wp_region_quiet_below (by kernel_rfl) (by kernel_rfl) ?_
              repeat (go_big_quiet_step ((first | (go_at_call 100; exact same_quiet (HSC.out _)) | (go_at_call 101; exact below_quiet (HEN.out _)))))
              refine wpQuiet_nil ?_
              intro w2 hw'
              have hb2 := Lib.hid (bw_below hw')
              clear hw'
              go_wp2
              go_ret2
              exact ⟨by rw [HR.out]; rfl, hb2.out⟩
    · have hfz : (s.size : Int) < (at_ : Int) + 4 := by omega
      have HR : Hid (Ru.firstL (s.data.toList.drop at_) = none) := by
        show _ = _
        rw [HF.out _ rfl, if_neg (fun h => by rw [HLEN.out] at h; omega)]
      go_enter Tryz.func88, Tryz.ntmps88
      go_wp2
      go_ret2
      exact ⟨by rw [HR.out]; rfl, Below.refl _ _⟩
  · by_cases hfit : at_ + 3 ≤ s.size
    · have hfz : ¬ (s.size : Int) < (at_ : Int) + 3 := by omega
      go_enter Tryz.func88, Tryz.ntmps88
      go_wp2_with fail
      go_loop [6, 8] (fun vp vi => ∃ (k p : Nat), 1 ≤ k ∧ k ≤ 3 ∧ vi = .int .i64 k ∧ vp = .int .i64 p ∧ Hid (p = Ru.cont p0 ((s.data.toList.drop (at_ + 1)).take (k - 1)))) (fun _ vi => 3 - (intOf vi).toNat)
      case atStart => exact ⟨1, p0, by omega, by omega, rfl, by first | rfl | (congr 1; omega), rfl⟩
      case round =>
        obtain ⟨k, p, hk1, hk2, rfl, rfl, HP⟩ := hrel
        have hpb : p < 67371008 := by rw [HP.out]; exact cont_bound hp0 (by simp; omega)
        by_cases hlt : k < 3
        · have hltz : (k : Int) < 3 := by omega
          have hix : at_ + k < s.size := by omega
          have hbk : (s[at_ + k]'hix).toNat < 256 := UInt8.toNat_lt _
          have HN : Hid (p * 64 + (s[at_ + k]'hix).toNat % 64 = Ru.cont p0 ((s.data.toList.drop (at_ + 1)).take (k + 1 - 1))) := by
            show _ = _
            have := cont_next s p0 at_ k hk1 hix
            rw [this, ← HP.out]
          go_wp2
          go_round
          case rel => exact ⟨k + 1, p * 64 + (s[at_ + k]'hix).toNat % 64, by omega, by omega, by go_num, by first | rfl | (congr 1; omega), HN⟩
          case measure => simp [intOf]; omega
        · have hltz : ¬ (k : Int) < 3 := by omega
          obtain rfl : k = 3 := by omega
          have HFP := Lib.hid (HF.out p HP.out)
          have hsc := fun W => (scalar_any (p : Int) W).mono (R' := fun e w' => e = .returned (.bool (Ru.scalarB p)) ∧ W = w') (fun _ _ h => h)
          obtain ⟨sb, hsb⟩ : ∃ sb, Hid (Ru.scalarB p = sb) := ⟨_, rfl⟩
          rw [hsb.out] at hsc
          have HSC := Lib.hid hsc; clear hsc
          cases sb with
          | false =>
            have HR : Hid (Ru.firstL (s.data.toList.drop at_) = none) := by
              show _ = _
              rw [HFP.out, if_neg (fun h => by rw [hsb.out] at h; cases h.2.1)]
            go_wp2_with fail
            refine wp_region_quiet_below (by kernel_rfl) (by kernel_rfl) ?_
            repeat (go_big_quiet_step ((first | (go_at_call 100; exact same_quiet (HSC.out _)))))
            refine wpQuiet_nil ?_
            intro w2 hw'
            have hb2 := Lib.hid (bw_below hw')
            clear hw'
            go_wp2
            go_ret2
            exact ⟨by rw [HR.out]; rfl, hb2.out⟩
          | true =>
            have hp1 : p ≤ 1114111 := by have := hsb.out; simp [Ru.scalarB] at this; omega
            have HEN : Hid (∀ W : World, Calls Tryz.prog 101 #[.int .i64 p] W fun e w' => e = .returned (.string (strL (Ru.encL p))) ∧ Below W.heap.size W w') := fun W => encoded_any p W hp1
            have hx1 : (at_ : Int) ≤ (at_ : Int) + 3 := by omega
            have hx2 : (at_ : Int) + 3 ≤ (s.size : Int) := by omega
            by_cases heq : Ru.encL p = (s.data.toList.drop at_).take 3
            · have hbeq : ((strL (Ru.encL p)).toList == (s.extract at_ (at_ + 3)).toList) = true := by
                rw [strL_list, Lib.toList_data, extract_mid, heq]
                exact beq_self_eq_true _
              have HR : Hid (Ru.firstL (s.data.toList.drop at_) = some (p, 3)) := by
                show _ = _
                rw [HFP.out, if_pos ⟨by rw [HLEN.out]; omega, hsb.out, heq⟩]
              clear heq
              go_wp2_with fail
              refine wp_region_quiet_below (by kernel_rfl) (by kernel_rfl) ?_
              repeat (go_big_quiet_step ((first | (go_at_call 100; exact same_quiet (HSC.out _)) | (go_at_call 101; exact below_quiet (HEN.out _)))))
              refine wpQuiet_nil ?_
              intro w2 hw'
              have hb2 := Lib.hid (bw_below hw')
              clear hw'
              go_wp2
              go_ret2
              exact ⟨by rw [HR.out]; rfl, hb2.out⟩
            · have hbeq : ((strL (Ru.encL p)).toList == (s.extract at_ (at_ + 3)).toList) = false := by
                rw [strL_list, Lib.toList_data, extract_mid]
                exact beq_eq_false_iff_ne.2 heq
              have HR : Hid (Ru.firstL (s.data.toList.drop at_) = none) := by
                show _ = _
                rw [HFP.out, if_neg (fun h => heq h.2.2)]
              clear heq
              go_wp2_with fail
              refine wp_region_quiet_below (by kernel_rfl) (by kernel_rfl) ?_
              repeat (go_big_quiet_step ((first | (go_at_call 100; exact same_quiet (HSC.out _)) | (go_at_call 101; exact below_quiet (HEN.out _)))))
              refine wpQuiet_nil ?_
              intro w2 hw'
              have hb2 := Lib.hid (bw_below hw')
              clear hw'
              go_wp2
              go_ret2
              exact ⟨by rw [HR.out]; rfl, hb2.out⟩
    · have hfz : (s.size : Int) < (at_ : Int) + 3 := by omega
      have HR : Hid (Ru.firstL (s.data.toList.drop at_) = none) := by
        show _ = _
        rw [HF.out _ rfl, if_neg (fun h => by rw [HLEN.out] at h; omega)]
      go_enter Tryz.func88, Tryz.ntmps88
      go_wp2
      go_ret2
      exact ⟨by rw [HR.out]; rfl, Below.refl _ _⟩
  · by_cases hfit : at_ + 2 ≤ s.size
    · have hfz : ¬ (s.size : Int) < (at_ : Int) + 2 := by omega
      go_enter Tryz.func88, Tryz.ntmps88
      go_wp2_with fail
      go_loop [6, 8] (fun vp vi => ∃ (k p : Nat), 1 ≤ k ∧ k ≤ 2 ∧ vi = .int .i64 k ∧ vp = .int .i64 p ∧ Hid (p = Ru.cont p0 ((s.data.toList.drop (at_ + 1)).take (k - 1)))) (fun _ vi => 2 - (intOf vi).toNat)
      case atStart => exact ⟨1, p0, by omega, by omega, rfl, by first | rfl | (congr 1; omega), rfl⟩
      case round =>
        obtain ⟨k, p, hk1, hk2, rfl, rfl, HP⟩ := hrel
        have hpb : p < 67371008 := by rw [HP.out]; exact cont_bound hp0 (by simp; omega)
        by_cases hlt : k < 2
        · have hltz : (k : Int) < 2 := by omega
          have hix : at_ + k < s.size := by omega
          have hbk : (s[at_ + k]'hix).toNat < 256 := UInt8.toNat_lt _
          have HN : Hid (p * 64 + (s[at_ + k]'hix).toNat % 64 = Ru.cont p0 ((s.data.toList.drop (at_ + 1)).take (k + 1 - 1))) := by
            show _ = _
            have := cont_next s p0 at_ k hk1 hix
            rw [this, ← HP.out]
          go_wp2
          go_round
          case rel => exact ⟨k + 1, p * 64 + (s[at_ + k]'hix).toNat % 64, by omega, by omega, by go_num, by first | rfl | (congr 1; omega), HN⟩
          case measure => simp [intOf]; omega
        · have hltz : ¬ (k : Int) < 2 := by omega
          obtain rfl : k = 2 := by omega
          have HFP := Lib.hid (HF.out p HP.out)
          have hsc := fun W => (scalar_any (p : Int) W).mono (R' := fun e w' => e = .returned (.bool (Ru.scalarB p)) ∧ W = w') (fun _ _ h => h)
          obtain ⟨sb, hsb⟩ : ∃ sb, Hid (Ru.scalarB p = sb) := ⟨_, rfl⟩
          rw [hsb.out] at hsc
          have HSC := Lib.hid hsc; clear hsc
          cases sb with
          | false =>
            have HR : Hid (Ru.firstL (s.data.toList.drop at_) = none) := by
              show _ = _
              rw [HFP.out, if_neg (fun h => by rw [hsb.out] at h; cases h.2.1)]
            go_wp2_with fail
            refine wp_region_quiet_below (by kernel_rfl) (by kernel_rfl) ?_
            repeat (go_big_quiet_step ((first | (go_at_call 100; exact same_quiet (HSC.out _)))))
            refine wpQuiet_nil ?_
            intro w2 hw'
            have hb2 := Lib.hid (bw_below hw')
            clear hw'
            go_wp2
            go_ret2
            exact ⟨by rw [HR.out]; rfl, hb2.out⟩
          | true =>
            have hp1 : p ≤ 1114111 := by have := hsb.out; simp [Ru.scalarB] at this; omega
            have HEN : Hid (∀ W : World, Calls Tryz.prog 101 #[.int .i64 p] W fun e w' => e = .returned (.string (strL (Ru.encL p))) ∧ Below W.heap.size W w') := fun W => encoded_any p W hp1
            have hx1 : (at_ : Int) ≤ (at_ : Int) + 2 := by omega
            have hx2 : (at_ : Int) + 2 ≤ (s.size : Int) := by omega
            by_cases heq : Ru.encL p = (s.data.toList.drop at_).take 2
            · have hbeq : ((strL (Ru.encL p)).toList == (s.extract at_ (at_ + 2)).toList) = true := by
                rw [strL_list, Lib.toList_data, extract_mid, heq]
                exact beq_self_eq_true _
              have HR : Hid (Ru.firstL (s.data.toList.drop at_) = some (p, 2)) := by
                show _ = _
                rw [HFP.out, if_pos ⟨by rw [HLEN.out]; omega, hsb.out, heq⟩]
              clear heq
              go_wp2_with fail
              refine wp_region_quiet_below (by kernel_rfl) (by kernel_rfl) ?_
              repeat (go_big_quiet_step ((first | (go_at_call 100; exact same_quiet (HSC.out _)) | (go_at_call 101; exact below_quiet (HEN.out _)))))
              refine wpQuiet_nil ?_
              intro w2 hw'
              have hb2 := Lib.hid (bw_below hw')
              clear hw'
              go_wp2
              go_ret2
              exact ⟨by rw [HR.out]; rfl, hb2.out⟩
            · have hbeq : ((strL (Ru.encL p)).toList == (s.extract at_ (at_ + 2)).toList) = false := by
                rw [strL_list, Lib.toList_data, extract_mid]
                exact beq_eq_false_iff_ne.2 heq
              have HR : Hid (Ru.firstL (s.data.toList.drop at_) = none) := by
                show _ = _
                rw [HFP.out, if_neg (fun h => heq h.2.2)]
              clear heq
              go_wp2_with fail
              refine wp_region_quiet_below (by kernel_rfl) (by kernel_rfl) ?_
              repeat (go_big_quiet_step ((first | (go_at_call 100; exact same_quiet (HSC.out _)) | (go_at_call 101; exact below_quiet (HEN.out _)))))
              refine wpQuiet_nil ?_
              intro w2 hw'
              have hb2 := Lib.hid (bw_below hw')
              clear hw'
              go_wp2
              go_ret2
              exact ⟨by rw [HR.out]; rfl, hb2.out⟩
    · have hfz : (s.size : Int) < (at_ : Int) + 2 := by omega
      have HR : Hid (Ru.firstL (s.data.toList.drop at_) = none) := by
        show _ = _
        rw [HF.out _ rfl, if_neg (fun h => by rw [HLEN.out] at h; omega)]
      go_enter Tryz.func88, Tryz.ntmps88
      go_wp2
      go_ret2
      exact ⟨by rw [HR.out]; rfl, Below.refl _ _⟩
  · by_cases hfit : at_ + 1 ≤ s.size
    · have hfz : ¬ (s.size : Int) < (at_ : Int) + 1 := by omega
      go_enter Tryz.func88, Tryz.ntmps88
      go_wp2_with fail
      go_loop [6, 8] (fun vp vi => ∃ (k p : Nat), 1 ≤ k ∧ k ≤ 1 ∧ vi = .int .i64 k ∧ vp = .int .i64 p ∧ Hid (p = Ru.cont p0 ((s.data.toList.drop (at_ + 1)).take (k - 1)))) (fun _ vi => 1 - (intOf vi).toNat)
      case atStart => exact ⟨1, p0, by omega, by omega, rfl, by first | rfl | (congr 1; omega), rfl⟩
      case round =>
        obtain ⟨k, p, hk1, hk2, rfl, rfl, HP⟩ := hrel
        have hpb : p < 67371008 := by rw [HP.out]; exact cont_bound hp0 (by simp; omega)
        by_cases hlt : k < 1
        · exfalso; omega
        · have hltz : ¬ (k : Int) < 1 := by omega
          obtain rfl : k = 1 := by omega
          have HFP := Lib.hid (HF.out p HP.out)
          have hsc := fun W => (scalar_any (p : Int) W).mono (R' := fun e w' => e = .returned (.bool (Ru.scalarB p)) ∧ W = w') (fun _ _ h => h)
          obtain ⟨sb, hsb⟩ : ∃ sb, Hid (Ru.scalarB p = sb) := ⟨_, rfl⟩
          rw [hsb.out] at hsc
          have HSC := Lib.hid hsc; clear hsc
          cases sb with
          | false =>
            have HR : Hid (Ru.firstL (s.data.toList.drop at_) = none) := by
              show _ = _
              rw [HFP.out, if_neg (fun h => by rw [hsb.out] at h; cases h.2.1)]
            go_wp2_with fail
            refine wp_region_quiet_below (by kernel_rfl) (by kernel_rfl) ?_
            repeat (go_big_quiet_step ((first | (go_at_call 100; exact same_quiet (HSC.out _)))))
            refine wpQuiet_nil ?_
            intro w2 hw'
            have hb2 := Lib.hid (bw_below hw')
            clear hw'
            go_wp2
            go_ret2
            exact ⟨by rw [HR.out]; rfl, hb2.out⟩
          | true =>
            have hp1 : p ≤ 1114111 := by have := hsb.out; simp [Ru.scalarB] at this; omega
            have HEN : Hid (∀ W : World, Calls Tryz.prog 101 #[.int .i64 p] W fun e w' => e = .returned (.string (strL (Ru.encL p))) ∧ Below W.heap.size W w') := fun W => encoded_any p W hp1
            have hx1 : (at_ : Int) ≤ (at_ : Int) + 1 := by omega
            have hx2 : (at_ : Int) + 1 ≤ (s.size : Int) := by omega
            by_cases heq : Ru.encL p = (s.data.toList.drop at_).take 1
            · have hbeq : ((strL (Ru.encL p)).toList == (s.extract at_ (at_ + 1)).toList) = true := by
                rw [strL_list, Lib.toList_data, extract_mid, heq]
                exact beq_self_eq_true _
              have HR : Hid (Ru.firstL (s.data.toList.drop at_) = some (p, 1)) := by
                show _ = _
                rw [HFP.out, if_pos ⟨by rw [HLEN.out]; omega, hsb.out, heq⟩]
              clear heq
              go_wp2_with fail
              refine wp_region_quiet_below (by kernel_rfl) (by kernel_rfl) ?_
              repeat (go_big_quiet_step ((first | (go_at_call 100; exact same_quiet (HSC.out _)) | (go_at_call 101; exact below_quiet (HEN.out _)))))
              refine wpQuiet_nil ?_
              intro w2 hw'
              have hb2 := Lib.hid (bw_below hw')
              clear hw'
              go_wp2
              go_ret2
              exact ⟨by rw [HR.out]; rfl, hb2.out⟩
            · have hbeq : ((strL (Ru.encL p)).toList == (s.extract at_ (at_ + 1)).toList) = false := by
                rw [strL_list, Lib.toList_data, extract_mid]
                exact beq_eq_false_iff_ne.2 heq
              have HR : Hid (Ru.firstL (s.data.toList.drop at_) = none) := by
                show _ = _
                rw [HFP.out, if_neg (fun h => heq h.2.2)]
              clear heq
              go_wp2_with fail
              refine wp_region_quiet_below (by kernel_rfl) (by kernel_rfl) ?_
              repeat (go_big_quiet_step ((first | (go_at_call 100; exact same_quiet (HSC.out _)) | (go_at_call 101; exact below_quiet (HEN.out _)))))
              refine wpQuiet_nil ?_
              intro w2 hw'
              have hb2 := Lib.hid (bw_below hw')
              clear hw'
              go_wp2
              go_ret2
              exact ⟨by rw [HR.out]; rfl, hb2.out⟩
    · exfalso; omega
end Go.Proofs.YtdpllfgnppeneaaGreatDoor

namespace Go.Proofs.YtdpllfgnppeneaaGreatDoor
open Go.RowKit
set_option linter.unusedVariables false
set_option linter.unusedSimpArgs false

theorem scalar_le {p : Nat} (h : Ru.scalarB (p : Int) = true) : p ≤ 1114111 := by
  unfold Ru.scalarB at h
  rw [Bool.and_eq_true, Bool.and_eq_true] at h
  have := of_decide_eq_true h.1.2
  omega
/-- What 'Points' hands back. -/
def PointsPost (w : World) (o : Option (List Nat)) (e : Ending) (w' : World) : Prop :=
  (o = none → e = .returned (.tuple #[.slice none 0 0, .bool false])) ∧
  (∀ d, o = some d → ∃ v, e = .returned (.tuple #[v, .bool true]) ∧ w'.ownsRow w.heap.size 3 1 v d.length (d.map fun (p : Nat) => Value.int .i64 (p : Int))) ∧ Below w.heap.size w w'

set_option maxHeartbeats 1000000 in
set_option maxRecDepth 100000 in
theorem points02_any (s : ByteArray) (w : World) (hs : s.size ≤ 1099511627776) :
    Calls Tryz.prog 70 #[.string s] w (PointsPost w (Ru.points s.data.toList)) := by
  obtain ⟨i0, hi, hz0, hz1, hz2⟩ := info_parts info_int
  go_enter Tryz.func70, Tryz.ntmps70
  go_wp2_with fail
  go_loopw [4, 5, 6, 7] (fun v4 v5 _ _ wr => ∃ (at_ : Nat) (d : List Nat), at_ ≤ s.size ∧ v5 = .int .i64 at_ ∧ d.length ≤ at_ ∧ wr.ownsRow w.heap.size 3 1 v4 d.length (d.map fun (p : Nat) => Value.int .i64 (p : Int)) ∧
    Hid (Ru.points s.data.toList = (Ru.points (s.data.toList.drop at_)).map (d ++ ·)) ∧ Hid (Below w.heap.size w wr)) (fun _ v5 _ _ _ => s.size - (intOf v5).toNat)
  case atStart => exact ⟨0, [], Nat.zero_le _, rfl, Nat.le_refl _, World.ownsRow_nil _ _ _ _, (show _ = _ by cases h : Ru.points s.data.toList <;> simp [h]), Below.refl _ _⟩
  case round =>
    obtain ⟨at_, d, hat, rfl, hda, hown, HD, HB⟩ := hrel
    have hszw := HB.out.size
    by_cases hr : at_ < s.size
    · have hne : s.data.toList.drop at_ ≠ [] := by
        intro h0
        have := congrArg List.length h0
        rw [List.length_drop, ← Lib.size_eq] at this
        simp at this
        omega
      have HF := Lib.hid (first02_any s at_ wr hr hs)
      obtain ⟨o, ho⟩ : ∃ o, Hid (Ru.firstL (s.data.toList.drop at_) = o) := ⟨_, rfl⟩
      rw [ho.out] at HF
      have HOWN := Lib.hid hown; clear hown
      cases o with
      | none =>
        have HP : Hid (Ru.points s.data.toList = none) := by
          show _ = _
          rw [HD.out, Ru.points_none hne ho.out]
          rfl
        go_wp2_with fail
        refine HF.out.mono ?_
        rintro e w1 ⟨rfl, hb1⟩
        have HB1 := Lib.hid hb1; clear hb1
        unfold firstV
        go_wp2
        go_ret2
        refine ⟨fun _ => rfl, (fun d hd => by rw [HP.out] at hd; cases hd), HB.out.trans (HB1.out.mono hszw)⟩
      | some pn =>
        obtain ⟨p, n⟩ := pn
        obtain ⟨f1, f2, f3, f4, _⟩ := Ru.firstL_some ho.out
        rw [List.length_drop, ← Lib.size_eq] at f3
        have hp1 : p ≤ 1114111 := scalar_le f4
        clear f4
        have HP : Hid (Ru.points s.data.toList = (Ru.points (s.data.toList.drop (at_ + n))).map ((d ++ [p]) ++ ·)) := by
          show _ = _
          rw [HD.out, Ru.points_some ho.out, List.drop_drop, Option.map_map]
          congr 1
          funext x
          simp
        have hn0 : ((n : Int) == 0) = false := beq_eq_false_iff_ne.2 (by omega)
        go_wp2_with fail
        refine HF.out.mono ?_
        rintro e w1 ⟨rfl, hb1⟩
        have HB1 := Lib.hid hb1; clear hb1
        have HOWN1 := Lib.hid (own_below HOWN.out HB1.out)
        have hszw1 : w.heap.size ≤ w1.heap.size := Nat.le_trans hszw HB1.out.size
        have HBB : Hid (Below w.heap.size w w1) := HB.out.trans (HB1.out.mono hszw)
        clear HOWN HB1
        unfold firstV
        go_wp2_with (at_builtin; refine wpList_app1 rfl (.tmp 20) (.tmp 22) _ rfl w.heap.size 3 8 _ info_int rfl Tryz.underlying22 rfl HOWN1.out rfl rfl (by omega) (by omega) (by omega) ?_; rintro v7 w2 hown7 hb2 hs2 hk2; clear hk2)
        have HB2 := Lib.hid hb2; clear hb2
        go_roundw
        case rel => exact ⟨at_ + n, d ++ [p], by omega, by go_num, by simp; omega, by simpa using hown7, HP, HBB.out.trans HB2.out⟩
        case measure => simp [intOf]; omega
    · have hat' : at_ = s.size := by omega
      have HP : Hid (Ru.points s.data.toList = some d) := by
        show _ = _
        rw [HD.out, hat', Lib.size_eq, List.drop_length, Ru.points_nil]
        simp
      clear hat'
      go_wp2
      go_ret2
      refine ⟨(fun h => by rw [HP.out] at h; cases h), fun d' hd => ?_, HB.out⟩
      rw [HP.out] at hd
      cases hd
      exact ⟨_, rfl, hown⟩
end Go.Proofs.YtdpllfgnppeneaaGreatDoor

/-
  One append onto a row of the call's own, as one operation (for regions that draw their order).
-/
namespace Go.Proofs.YtdpllfgnppeneaaGreatDoor
open Go Go.RowKit
variable {P : Program} {Q : Exit → Act → World → Prop}
theorem oper_append_own {o : Oper} {a : Act} {w : World} {K : Act → World → Prop} (s x : Operand) (t : TypeId)
    (ho : o.op = .call { callee := .builtin .append, args := #[s, x], argTypes := #[t, t] })
    (base : Nat) (e : TypeId) (i : TypeInfo) (z : Value) (size bytes : Nat) (ht : P.underlying t = some (.slice e)) (hi : P.info? e = some i) (hz : i.zero = some z)
    (hsize : i.size = size) (hby : i.bytes = bytes) (hzs : z.cells.size = size) (hsz : 0 < size)
    (v : Value) (n : Nat) (xs : List Value) (hs : a.eval s = v) (hown : w.ownsRow base e size v n xs)
    (ad : Addr) (m c : Nat) (news : List Value) (hx : a.eval x = .slice (some ad) m c) (hl : news.length = m * size) (hnews : ∀ j u, news[j]? = some u → w.cell? (ad.add j) = some u) (h1 : ∀ u ∈ news, u.oneCell' = true)
    (h63 : n + m ≤ maxLen) (hbytes : (n + m) * bytes ≤ 140737488355328) (hbase : base ≤ w.heap.size)
    (h : ∀ v' w', w'.ownsRow base e size v' (n + m) (xs ++ news) → w.grownBy w' v.ownBlock → (v' = .slice none 0 0 ↔ v = .slice none 0 0 ∧ m = 0) → (v'.ownBlock = v.ownBlock ∨ v'.ownBlock = some w.heap.size) → K (a.put o.dst v') w') :
    o.wp P a w K Q := by
  obtain ⟨v', w', hr, h2, h3, h4, h5⟩ := run_append_own_at (P := P) w base t o.type e i z size bytes ht hi hz hsize hby hzs hsz v n xs hown ad m c news hl hnews h1 h63 hbytes hbase
  unfold Oper.wp execOp
  simp only [ho, resolve, invoke, builtin, Sem.run_bind, Sem.run_pure, Result.andThen_ok, List.map_toArray, List.map_cons, List.map_nil, hs, hx, hr]
  exact h v' w' h2 h3 h4 h5
end Go.Proofs.YtdpllfgnppeneaaGreatDoor

/-
  One append onto a row of the call's own, its source a slice that reads as a list (nil let in): at a step of a region that draws its order, and in a plain region's list.
-/
namespace Go.Proofs.YtdpllfgnppeneaaGreatDoor
open Go Go.RowKit
set_option linter.unusedVariables false
variable {P : Program} {Q : Exit → Act → World → Prop}

/-- An append of nil hands back what it got. -/
theorem append_nil_run (w : World) (base : Nat) (t ty e : TypeId) (i : TypeInfo) (size : Nat) (ht : P.underlying t = some (.slice e)) (hi : P.info? e = some i) {v : Value} {n : Nat} {xs : List Value}
    (hown : w.ownsRow base e size v n xs) (c : Nat) : (Builtin.append_ #[t, t] ty #[v, .slice none 0 c]).run P w = .ok v w := by
  rcases hown.2 with ⟨hv, hn⟩ | ⟨g, cap, cur, hv, _, _, hle, _⟩
  · subst hv hn
    simp [Builtin.append_, run_underlying ht, sizeOf, typeInfo, hi, Builtin.lenOf, Builtin.firstCells]
  · subst hv
    simp [Builtin.append_, run_underlying ht, sizeOf, typeInfo, hi, Builtin.lenOf, Builtin.firstCells, hle, storeCells]
theorem reads_none {w : World} {B size n : Nat} {xs : List Value} (hr : Reads w B size none n xs) : n = 0 ∧ xs = [] := by
  have hn : n = 0 := by
    rcases Nat.eq_zero_or_pos n with h | h
    · exact h
    · obtain ⟨_, hc, _⟩ := hr.2 h
      cases hc
  exact ⟨hn, List.eq_nil_of_length_eq_zero (by rw [hr.1, hn, Nat.zero_mul])⟩
theorem oper_app {o : Oper} {a : Act} {w : World} {K : Act → World → Prop} (s x : Operand) (t : TypeId)
    (ho : o.op = .call { callee := .builtin .append, args := #[s, x], argTypes := #[t, t] })
    (base : Nat) (e : TypeId) (bytes : Nat) (z : Value) (hinfo : (P.info? e).map (fun i => (i.zero, i.size, i.bytes)) = some (some z, 1, bytes)) (hzc : z.cells.size = 1) (ht : P.underlying t = some (.slice e))
    {v : Value} {n : Nat} {xs : List Value} (hs : a.eval s = v) (hown : w.ownsRow base e 1 v n xs)
    {B : Nat} {A : Option Addr} {m c : Nat} {news : List Value} (hx : a.eval x = .slice A m c) (hr : Reads w B 1 A m news) (h1 : ∀ u ∈ news, u.oneCell' = true)
    (h63 : n + m ≤ 9223372036854775807) (hbytes : (n + m) * bytes ≤ 140737488355328) (hbase : base ≤ w.heap.size)
    (h : ∀ v' w', w'.ownsRow base e 1 v' (n + m) (xs ++ news) → w.grownBy w' v.ownBlock → (v'.ownBlock = v.ownBlock ∨ v'.ownBlock = some w.heap.size) → K (a.put o.dst v') w') :
    o.wp P a w K Q := by
  obtain ⟨i0, hi, hz0, hz1, hz2⟩ := info_parts hinfo
  cases A with
  | none =>
    obtain ⟨h2, h3⟩ := reads_none hr
    subst h2 h3
    have hrun := append_nil_run (P := P) w base t o.type e i0 1 ht hi hown c
    unfold Oper.wp execOp
    simp only [ho, resolve, invoke, builtin, Sem.run_bind, Sem.run_pure, Result.andThen_ok, List.map_toArray, List.map_cons, List.map_nil, hs, hx, hrun]
    exact h v w (by simpa using hown) (World.grownBy.refl w _) (.inl rfl)
  | some ad =>
    have hc : ∀ j u, news[j]? = some u → w.cell? (ad.add j) = some u := by
      intro j u hu
      have hj := (List.getElem?_eq_some_iff.1 hu).1
      have hl := hr.1
      obtain ⟨ad', h2, _, h3⟩ := hr.2 (by omega)
      cases h2
      exact h3 j u hu
    exact oper_append_own s x t ho base e i0 z 1 bytes ht hi hz0 hz1 hz2 hzc (by decide) v n xs hs hown ad m c news hx hr.1 hc h1 (by unfold maxLen; omega) hbytes hbase fun v' w' h2 h3 _ h4 => h v' w' h2 h3 h4
theorem step_app {ops : Array Oper} {o : Oper} {a : Act} {w : World} {K : Act → World → Prop} {E : Prop} (hgd : o.guard = none) (s x : Operand) (t : TypeId)
    (ho : o.op = .call { callee := .builtin .append, args := #[s, x], argTypes := #[t, t] })
    (base : Nat) (e : TypeId) (bytes : Nat) (z : Value) (hinfo : (P.info? e).map (fun i => (i.zero, i.size, i.bytes)) = some (some z, 1, bytes)) (hzc : z.cells.size = 1) (ht : P.underlying t = some (.slice e))
    {v : Value} {n : Nat} {xs : List Value} (hs : a.eval s = v) (hown : w.ownsRow base e 1 v n xs)
    {B : Nat} {A : Option Addr} {m c : Nat} {news : List Value} (hx : a.eval x = .slice A m c) (hr : Reads w B 1 A m news) (h1 : ∀ u ∈ news, u.oneCell' = true)
    (h63 : n + m ≤ 9223372036854775807) (hbytes : (n + m) * bytes ≤ 140737488355328) (hbase : base ≤ w.heap.size)
    (h : ∀ v' w', w'.ownsRow base e 1 v' (n + m) (xs ++ news) → w.grownBy w' v.ownBlock → (v'.ownBlock = v.ownBlock ∨ v'.ownBlock = some w.heap.size) → K (a.put o.dst v') w') :
    if Region.wanted o (yielded ops a.tmps) = true then Oper.wp P o a w K Q else E := by
  have hw : Region.wanted o (yielded ops a.tmps) = true := by simp [Region.wanted, hgd]
  rw [if_pos hw]
  exact oper_app s x t ho base e bytes z hinfo hzc ht hs hown hx hr h1 h63 hbytes hbase h
theorem wpList_app {ops : Array Oper} {rest : List Oper} {o : Oper} {a : Act} {w : World} (hgd : o.guard = none) (s x : Operand) (t : TypeId)
    (ho : o.op = .call { callee := .builtin .append, args := #[s, x], argTypes := #[t, t] })
    (base : Nat) (e : TypeId) (bytes : Nat) (z : Value) (hinfo : (P.info? e).map (fun i => (i.zero, i.size, i.bytes)) = some (some z, 1, bytes)) (hzc : z.cells.size = 1) (ht : P.underlying t = some (.slice e))
    {v : Value} {n : Nat} {xs : List Value} (hs : a.eval s = v) (hown : w.ownsRow base e 1 v n xs)
    {B : Nat} {A : Option Addr} {m c : Nat} {news : List Value} (hx : a.eval x = .slice A m c) (hr : Reads w B 1 A m news) (h1 : ∀ u ∈ news, u.oneCell' = true)
    (h63 : n + m ≤ 9223372036854775807) (hbytes : (n + m) * bytes ≤ 140737488355328) (hbase : base ≤ w.heap.size)
    (h : ∀ v' w', w'.ownsRow base e 1 v' (n + m) (xs ++ news) → w.grownBy w' v.ownBlock → (v'.ownBlock = v.ownBlock ∨ v'.ownBlock = some w.heap.size) → wpList P ops Q rest (a.put o.dst v') w') :
    wpList P ops Q (o :: rest) a w :=
  wpList_plain hgd fun _ hK => oper_app s x t ho base e bytes z hinfo hzc ht hs hown hx hr h1 h63 hbytes hbase fun v' w' h2 h3 h4 => hK _ _ (h v' w' h2 h3 h4)

/-- A new block without cells is an empty row. -/
theorem own_empty {W : World} {base b e size : Nat} (hb : W.heap.size = b) (h : base ≤ b) : (W.alloc (.cells #[] e)).ownsRow base e size (.slice (some ⟨b, 0, none⟩) 0 0) 0 [] := by
  subst hb
  exact World.ownsRow_made W #[] 0 h (by unfold maxLen; omega) (by simp)
/-- A new block of one cell reads as that cell. -/
theorem reads_one {W : World} {b e : Nat} {x : Value} (hb : W.heap.size = b) : Reads (W.alloc (.cells #[x] e)) (b + 1) 1 (some ⟨b, 0, none⟩) 1 [x] := by
  subst hb
  refine ⟨rfl, fun _ => ⟨_, rfl, by simp, fun j u hu => ?_⟩⟩
  obtain rfl : j = 0 := by
    have := (List.getElem?_eq_some_iff.1 hu).1
    simp at this
    omega
  simp at hu
  subst hu
  have e1 : (⟨W.heap.size, 0, none⟩ : Addr).add 0 = ⟨W.heap.size, 0, none⟩ := by simp [Addr.add]
  rw [e1, World.cell?_alloc_at _ _ _ _ rfl]
  rfl

/-- A block of one cell, apart from a row. -/
def Item (W : World) (b : Nat) (x v : Value) : Prop := W.cell? ⟨b, 0, none⟩ = some x ∧ b < W.heap.size ∧ v.ownBlock ≠ some b
theorem Item.reads {W : World} {b : Nat} {x v : Value} (h : Item W b x v) : Reads W W.heap.size 1 (some ⟨b, 0, none⟩) 1 [x] := by
  refine ⟨rfl, fun _ => ⟨_, rfl, h.2.1, fun j u hu => ?_⟩⟩
  obtain rfl : j = 0 := by
    have := (List.getElem?_eq_some_iff.1 hu).1
    simp at this
    omega
  simp at hu
  subst hu
  have e1 : (⟨b, 0, none⟩ : Addr).add 0 = ⟨b, 0, none⟩ := by simp [Addr.add]
  rw [e1]
  exact h.1
theorem Item.grown {W W' : World} {b : Nat} {x v v' : Value} (h : Item W b x v) (hg : W.grownBy W' v.ownBlock) (hat : v'.ownBlock = v.ownBlock ∨ v'.ownBlock = some W.heap.size) : Item W' b x v' := by
  obtain ⟨h1, h2, h3⟩ := h
  refine ⟨(World.cell?_of_block (hg.block b h2 (fun e => h3 e.symm))).trans h1, Nat.lt_of_lt_of_le h2 hg.size, fun e => ?_⟩
  rcases hat with h4 | h4
  · exact h3 (h4 ▸ e)
  · rw [h4] at e
    injection e with e
    omega
theorem Item.new {W : World} {b base e size n : Nat} {x v : Value} {xs : List Value} (h : W.ownsRow base e size v n xs) (hb : W.heap.size = b) : Item (W.alloc (.cells #[x] e)) b x v := by
  subst hb
  refine ⟨by rw [World.cell?_alloc_at _ _ _ _ rfl]; rfl, by simp, fun he => ?_⟩
  have := (h.lt _ he).2
  omega
theorem below_app {B : Nat} {w W W' : World} {base e size n : Nat} {v : Value} {xs : List Value} (h : Below B w W) (hown : W.ownsRow base e size v n xs) (hg : W.grownBy W' v.ownBlock) (hB : B ≤ base) (hW : B ≤ W.heap.size) : Below B w W' :=
  h.grown hg hW fun k hk => Nat.le_trans hB (hown.lt k hk).1
theorem Item.first {W : World} {e e' b b' : Nat} {x : Value} (hb : W.heap.size = b) (hb' : b' = b + 1) : Item ((W.alloc (.cells #[x] e)).alloc (.cells #[] e')) b x (.slice (some ⟨b', 0, none⟩) 0 0) := by
  subst hb hb'
  refine ⟨?_, by simp; omega, by simp [Value.ownBlock]⟩
  rw [World.cell?_alloc_lt _ _ _ (by simp), World.cell?_alloc_at _ _ _ _ rfl]
  rfl
theorem Item.second {W : World} {e e' b b' : Nat} {x : Value} (hb : W.heap.size = b) (hb' : b' = b + 1) : Item ((W.alloc (.cells #[] e')).alloc (.cells #[x] e)) b' x (.slice (some ⟨b, 0, none⟩) 0 0) := by
  subst hb hb'
  refine ⟨?_, by simp, by simp [Value.ownBlock]⟩
  rw [World.cell?_alloc_at _ _ _ _ (by simp)]
  rfl
end Go.Proofs.YtdpllfgnppeneaaGreatDoor

namespace Go.Proofs.YtdpllfgnppeneaaGreatDoor
open Go.RowKit
set_option linter.unusedVariables false
set_option linter.unusedSimpArgs false

/-- What 'Of' hands back. -/
def ofV (o : Option (List UInt8)) : Value :=
  match o with
  | none => .tuple #[.string ⟨#[]⟩, .bool false]
  | some b => .tuple #[.string (strL b), .bool true]
theorem strL_data (l : List UInt8) : (strL l).data.toList = l := by simp [strL]
theorem strL_of {s : ByteArray} {l : List UInt8} (h : s.data.toList = l) : s = strL l := ba_ext (by rw [h, strL_data])
theorem strL_size (l : List UInt8) : (strL l).size = l.length := by rw [Lib.size_eq, strL_data]
theorem app_data (a b : ByteArray) : (a ++ b).data.toList = a.data.toList ++ b.data.toList := by simp
theorem flat_le (l : List Int) : (l.flatMap Ru.encL).length ≤ 4 * l.length := by
  induction l with
  | nil => simp
  | cons x t ih =>
    have := (Ru.encL_len x).2
    simp only [List.flatMap_cons, List.length_append, List.length_cons]
    omega
theorem ofI_none {l : List Int} {k : Nat} {x : Int} (hx : l[k]? = some x) (h : Ru.scalarB x = false) : Ru.ofI l = none := by
  unfold Ru.ofI
  rw [if_neg]
  intro ha
  have := List.all_eq_true.1 ha x (List.mem_of_getElem? hx)
  rw [h] at this
  cases this
theorem take_at {α : Type} {l : List α} {k : Nat} {x : α} (h : l[k]? = some x) : l.take (k + 1) = l.take k ++ [x] := by rw [List.take_add_one, h]; rfl

end Go.Proofs.YtdpllfgnppeneaaGreatDoor

namespace Go.Proofs.YtdpllfgnppeneaaGreatDoor
open Go.RowKit Ru
set_option linter.unusedVariables false
set_option linter.unusedSimpArgs false

/-- A slice of points. -/
def NR (w : World) (B : Nat) (A : Option Addr) (n : Nat) (l : List Nat) : Prop := Reads w B 1 A n (l.map fun (p : Nat) => Value.int .i64 (p : Int))
theorem NR.at_ {w : World} {B n k : Nat} {A : Option Addr} {l : List Nat} (h : NR w B A n l) (hk : k < n) :
    ∃ ad x, A = some ad ∧ ad.block < B ∧ l[k]? = some x ∧ w.cell? (ad.add k) = some (.int .i64 (x : Int)) := by
  obtain ⟨ad, u, e, hb, hx, hc⟩ := Reads.at_ h hk
  rw [List.getElem?_map] at hx
  cases hz : l[k]? with
  | none => rw [hz] at hx; cases hx
  | some x => rw [hz] at hx; cases hx; exact ⟨ad, x, e, hb, rfl, hc⟩
theorem NR.len {w : World} {B n : Nat} {A : Option Addr} {l : List Nat} (h : NR w B A n l) : l.length = n := by simpa using h.1
theorem NR.on {w w' : World} {n : Nat} {A : Option Addr} {l : List Nat} (h : NR w w.heap.size A n l) (hb : Below w.heap.size w w') : NR w' w'.heap.size A n l := Reads.on h hb
theorem NR.ints {w : World} {B n : Nat} {A : Option Addr} {l : List Nat} (h : NR w B A n l) : IR w B A n (l.map fun (p : Nat) => (p : Int)) := by
  unfold IR NR at *
  rw [List.map_map]
  exact h
theorem ofI_nat {l : List Nat} (h : Sc l) : ofI (l.map fun (p : Nat) => (p : Int)) = some (encS l) := by
  unfold ofI
  rw [if_pos]
  · unfold encS
    rw [List.flatMap_map]
  · rw [List.all_eq_true]
    intro x hx
    obtain ⟨p, hp, rfl⟩ := List.mem_map.1 hx
    exact h p hp
theorem one_ints (l : List Nat) : ∀ u ∈ l.map (fun (p : Nat) => Value.int .i64 (p : Int)), u.oneCell' = true := by
  intro u hu
  obtain ⟨s, _, rfl⟩ := List.mem_map.1 hu
  rfl
theorem Reads.take {w : World} {B n m : Nat} {A : Option Addr} {xs : List Value} (h : Reads w B 1 A n xs) (hm : m ≤ n) : Reads w B 1 A m (xs.take m) := by
  refine ⟨by rw [List.length_take, h.1]; omega, fun h0 => ?_⟩
  obtain ⟨ad, e, hb, hc⟩ := h.2 (by omega)
  refine ⟨ad, e, hb, fun j u hu => ?_⟩
  rw [List.getElem?_take] at hu
  split at hu
  · exact hc j u hu
  · cases hu
theorem Reads.cut {w : World} {B n k cap : Nat} {A : Option Addr} {xs : List Value} (h : Reads w B 1 A n xs) (hk : k ≤ n) (hc : n ≤ cap) : Reads w B 1 (if cap = k then A else Option.map (fun x => x.add k) A) (n - k) (xs.drop k) := by
  refine ⟨by rw [List.length_drop, h.1]; omega, fun h0 => ?_⟩
  obtain ⟨ad, e, hb, hcell⟩ := h.2 (by omega)
  subst e
  rw [if_neg (by omega)]
  refine ⟨ad.add k, rfl, by rw [block_of_add]; exact hb, fun j u hu => ?_⟩
  rw [add_of_add]
  exact hcell _ u (by rw [← hu, List.getElem?_drop])

end Go.Proofs.YtdpllfgnppeneaaGreatDoor

namespace Go.Proofs.YtdpllfgnppeneaaGreatDoor
open Go.RowKit Ru
set_option linter.unusedVariables false
set_option linter.unusedSimpArgs false

theorem encS_le (l : List Nat) : (encS l).length ≤ 4 * l.length := by
  have := flat_le (l.map fun (p : Nat) => (p : Int))
  rw [List.flatMap_map, List.length_map] at this
  exact this
theorem sc_le {l : List Nat} (h : Sc l) : ∀ p ∈ l, p ≤ 1114111 := fun p hp => scalar_le (h p hp)
theorem ordR_len (l : List Nat) (m : Nat) : (ordR l m).length = l.length + 1 := by
  have := (ordR_perm l m).length_eq
  simpa using this
theorem sc_ordR {l : List Nat} {m : Nat} (h : Sc l) (hm : scalarB (m : Int) = true) : Sc (ordR l m) := fun p hp => by
  rcases List.mem_cons.1 ((ordR_perm l m).mem_iff.1 hp) with rfl | h2
  · exact hm
  · exact h p h2
theorem drop_at {α : Type} {l : List α} {k : Nat} {x : α} (h : l[k]? = some x) : l.drop k = x :: l.drop (k + 1) := by
  obtain ⟨hk, rfl⟩ := List.getElem?_eq_some_iff.1 h
  exact List.drop_eq_getElem_cons hk
/-- The cluster that is open, as it lies in memory. -/
def Open_ (wr : World) (v : Value) (cl : List Nat) : Prop := ∃ A c, v = .slice A cl.length c ∧ NR wr wr.heap.size A cl.length cl ∧ cl.length ≤ c ∧ c ≤ 9223372036854775807
theorem Open_.of_own {w : World} {b e n : Nat} {v : Value} {cl : List Nat} (h : w.ownsRow b e 1 v n (cl.map fun (p : Nat) => Value.int .i64 (p : Int))) (hn : cl.length = n) : Open_ w v cl := by
  obtain ⟨A, c, rfl, h1, h2, hr⟩ := own_form h
  subst hn
  exact ⟨A, c, rfl, hr, h1, h2⟩
theorem Open_.on {w w' : World} {v : Value} {cl : List Nat} (h : Open_ w v cl) (hb : Below w.heap.size w w') : Open_ w' v cl := by
  obtain ⟨A, c, e, hr, h1, h2⟩ := h
  exact ⟨A, c, e, hr.on hb, h1, h2⟩
def ordPost (s : ByteArray) : Value := .string (strL (order s.data.toList))
theorem order_none {s : List UInt8} (h : points s = none) : order s = s := by unfold order; rw [h]
theorem order_some {s : List UInt8} {d : List Nat} (h : points s = some d) : order s = encS (ords d) := by unfold order; rw [h]

end Go.Proofs.YtdpllfgnppeneaaGreatDoor
