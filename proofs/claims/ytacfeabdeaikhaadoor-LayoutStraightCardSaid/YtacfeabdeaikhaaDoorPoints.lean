import Derived.Test.YtacfeabdeaikhaaDoorRunes
import Derived.Test.YtacfeabdeaikhaaDoorQuietB
import Derived.Test.YtacfeabdeaikhaaDoorOwn
namespace Go.Proofs.YtacfeabdeaikhaaDoor
open Go.RowKit
set_option linter.unusedVariables false
set_option linter.unusedSimpArgs false

theorem drop_cons_at (s : ByteArray) (at_ : Nat) (h : at_ < s.size) : s.data.toList.drop at_ = s[at_] :: s.data.toList.drop (at_ + 1) := by
  rw [List.drop_eq_getElem_cons (by rw [← Lib.size_eq]; exact h)]
  rfl
theorem extract_mid (s : ByteArray) (a n : Nat) : (s.extract a (a + n)).data.toList = (s.data.toList.drop a).take n := by
  rw [Lib.extract_data]
  congr 1
  omega
theorem strL_list (l : List UInt8) : (strL l).toList = l := by rw [Lib.toList_data]; simp [strL]
theorem cont_bound {p0 : Nat} {l : List UInt8} (hp : p0 < 256) (hl : l.length ≤ 3) : Ru.cont p0 l < 67371008 := by
  refine Nat.lt_of_lt_of_le (Ru.cont_lt p0 l) ?_
  have h1 : 64 ^ l.length ≤ 64 ^ 3 := Nat.pow_le_pow_right (by omega) hl
  have h2 : (p0 + 1) * 64 ^ l.length ≤ 257 * 64 ^ 3 := Nat.mul_le_mul (by omega) h1
  exact Nat.le_trans h2 (by decide)
theorem cont_next (s : ByteArray) (p0 at_ k : Nat) (hk : 1 ≤ k) (h : at_ + k < s.size) :
    Ru.cont p0 ((s.data.toList.drop (at_ + 1)).take (k + 1 - 1)) = Ru.cont p0 ((s.data.toList.drop (at_ + 1)).take (k - 1)) * 64 + (s[at_ + k]'h).toNat % 64 := by
  have e : (s.data.toList.drop (at_ + 1)).take (k + 1 - 1) = (s.data.toList.drop (at_ + 1)).take (k - 1) ++ [s[at_ + k]'h] := by
    rw [show k + 1 - 1 = (k - 1) + 1 by omega, List.take_add_one]
    congr 1
    rw [List.getElem?_drop, show at_ + 1 + (k - 1) = at_ + k by omega, List.getElem?_eq_getElem (by rw [← Lib.size_eq]; exact h)]
    rfl
  rw [e, Ru.cont_snoc]
theorem lead_cases (b : Nat) : ∃ p0 n0, Hid (Ru.lead b = (p0, n0)) ∧ ((240 ≤ b ∧ p0 + 240 = b ∧ n0 = 4) ∨ (b < 240 ∧ 224 ≤ b ∧ p0 + 224 = b ∧ n0 = 3) ∨ (b < 224 ∧ 192 ≤ b ∧ p0 + 192 = b ∧ n0 = 2) ∨ (b < 192 ∧ p0 = b ∧ n0 = 1)) := by
  by_cases h1 : 240 ≤ b
  · exact ⟨b - 240, 4, (show Ru.lead b = _ by unfold Ru.lead; rw [if_pos h1]), .inl ⟨h1, by omega, rfl⟩⟩
  · by_cases h2 : 224 ≤ b
    · exact ⟨b - 224, 3, (show Ru.lead b = _ by unfold Ru.lead; rw [if_neg h1, if_pos h2]), .inr (.inl ⟨by omega, h2, by omega, rfl⟩)⟩
    · by_cases h3 : 192 ≤ b
      · exact ⟨b - 192, 2, (show Ru.lead b = _ by unfold Ru.lead; rw [if_neg h1, if_neg h2, if_pos h3]), .inr (.inr (.inl ⟨by omega, h3, by omega, rfl⟩))⟩
      · exact ⟨b, 1, (show Ru.lead b = _ by unfold Ru.lead; rw [if_neg h1, if_neg h2, if_neg h3]), .inr (.inr (.inr ⟨by omega, rfl, rfl⟩))⟩
/-- What 'first' hands back. -/
def firstV (o : Option (Nat × Nat)) : Value :=
  match o with
  | none => .tuple #[.int .i64 (-1), .int .i64 0]
  | some (p, n) => .tuple #[.int .i64 p, .int .i64 n]

set_option maxRecDepth 1000000 in
set_option maxHeartbeats 4000000 in
theorem first02_any (s : ByteArray) (at_ : Nat) (w : World) (hr : at_ < s.size) (hs : s.size ≤ 1099511627776) :
    Calls Tryd.prog 46 #[.string s, .int .i64 at_] w fun e w' => e = .returned (firstV (Ru.firstL (s.data.toList.drop at_))) ∧ Below w.heap.size w w' := by
  have hb0 : (s[at_]'hr).toNat < 256 := UInt8.toNat_lt _
  obtain ⟨p0, n0, HL, hcase⟩ : ∃ p0 n0, Hid (Ru.lead (s[at_]'hr).toNat = (p0, n0)) ∧ ((240 ≤ (s[at_]'hr).toNat ∧ p0 + 240 = (s[at_]'hr).toNat ∧ n0 = 4) ∨ ((s[at_]'hr).toNat < 240 ∧ 224 ≤ (s[at_]'hr).toNat ∧ p0 + 224 = (s[at_]'hr).toNat ∧ n0 = 3) ∨
      ((s[at_]'hr).toNat < 224 ∧ 192 ≤ (s[at_]'hr).toNat ∧ p0 + 192 = (s[at_]'hr).toNat ∧ n0 = 2) ∨ ((s[at_]'hr).toNat < 192 ∧ p0 = (s[at_]'hr).toNat ∧ n0 = 1)) := by
    exact lead_cases _
  have HD := Lib.hid (drop_cons_at s at_ hr)
  have hp0 : p0 < 256 := by have := Ru.lead_lt hb0; rw [HL.out] at this; exact this
  have HF : Hid (∀ p, p = Ru.cont p0 ((s.data.toList.drop (at_ + 1)).take (n0 - 1)) → Ru.firstL (s.data.toList.drop at_) = if n0 ≤ (s.data.toList.drop (at_ + 1)).length + 1 ∧ Ru.scalarB p = true ∧ Ru.encL p = (s.data.toList.drop at_).take n0 then some (p, n0) else none) := fun p hp => by
    rw [HD.out]
    simp only [Ru.firstL, HL.out]
    rw [← hp]
  have HLEN : Hid ((s.data.toList.drop (at_ + 1)).length + 1 = s.size - at_) := by
    show _ = _
    rw [List.length_drop, ← Lib.size_eq]
    omega
  clear HL
  rcases hcase with ⟨g1, g2, rfl⟩ | ⟨g0, g1, g2, rfl⟩ | ⟨g0, g1, g2, rfl⟩ | ⟨g0, g2, rfl⟩
  · by_cases hfit : at_ + 4 ≤ s.size
    · have hfz : ¬ (s.size : Int) < (at_ : Int) + 4 := by omega
      go_enter Tryd.func46, Tryd.ntmps46
      go_wp2_with fail
      go_loop [6, 8] (fun vp vi => ∃ (k p : Nat), 1 ≤ k ∧ k ≤ 4 ∧ vi = .int .i64 k ∧ vp = .int .i64 p ∧ Hid (p = Ru.cont p0 ((s.data.toList.drop (at_ + 1)).take (k - 1)))) (fun _ vi => 4 - (intOf vi).toNat)
      case atStart => exact ⟨1, p0, by omega, by omega, rfl, by first | rfl | (congr 1; omega), rfl⟩
      case round =>
        obtain ⟨k, p, hk1, hk2, rfl, rfl, HP⟩ := hrel
        have hpb : p < 67371008 := by rw [HP.out]; exact cont_bound hp0 (by simp; omega)
        by_cases hlt : k < 4
        · have hltz : (k : Int) < 4 := by omega
          have hix : at_ + k < s.size := by omega
          have hbk : (s[at_ + k]'hix).toNat < 256 := UInt8.toNat_lt _
          have HN : Hid (p * 64 + (s[at_ + k]'hix).toNat % 64 = Ru.cont p0 ((s.data.toList.drop (at_ + 1)).take (k + 1 - 1))) := by
            show _ = _
            have := cont_next s p0 at_ k hk1 hix
            rw [this, ← HP.out]
          go_wp2
          go_round
          case rel => exact ⟨k + 1, p * 64 + (s[at_ + k]'hix).toNat % 64, by omega, by omega, by go_num, by first | rfl | (congr 1; omega), HN⟩
          case measure => simp [intOf]; omega
        · have hltz : ¬ (k : Int) < 4 := by omega
          obtain rfl : k = 4 := by omega
          have HFP := Lib.hid (HF.out p HP.out)
          have hsc := fun W => (scalar_any (p : Int) W).mono (R' := fun e w' => e = .returned (.bool (Ru.scalarB p)) ∧ W = w') (fun _ _ h => h)
          obtain ⟨sb, hsb⟩ : ∃ sb, Hid (Ru.scalarB p = sb) := ⟨_, rfl⟩
          rw [hsb.out] at hsc
          have HSC := Lib.hid hsc; clear hsc
          cases sb with
          | false =>
            have HR : Hid (Ru.firstL (s.data.toList.drop at_) = none) := by
              show _ = _
              rw [HFP.out, if_neg (fun h => by rw [hsb.out] at h; cases h.2.1)]
            go_wp2_with fail
            refine wp_region_quiet_below (by kernel_rfl) (by kernel_rfl) ?_
            repeat (go_big_quiet_step ((first | (go_at_call 58; exact same_quiet (HSC.out _)))))
            refine wpQuiet_nil ?_
            intro w2 hw'
            have hb2 := Lib.hid (bw_below hw')
            clear hw'
            go_wp2
            go_ret2
            exact ⟨by rw [HR.out]; rfl, hb2.out⟩
          | true =>
            have hp1 : p ≤ 1114111 := by have := hsb.out; simp [Ru.scalarB] at this; omega
            have HEN : Hid (∀ W : World, Calls Tryd.prog 42 #[.int .i64 p] W fun e w' => e = .returned (.string (strL (Ru.encL p))) ∧ Below W.heap.size W w') := fun W => encoded_any p W hp1
            have hx1 : (at_ : Int) ≤ (at_ : Int) + 4 := by omega
            have hx2 : (at_ : Int) + 4 ≤ (s.size : Int) := by omega
            by_cases heq : Ru.encL p = (s.data.toList.drop at_).take 4
            · have hbeq : ((strL (Ru.encL p)).toList == (s.extract at_ (at_ + 4)).toList) = true := by
                rw [strL_list, Lib.toList_data, extract_mid, heq]
                exact beq_self_eq_true _
              have HR : Hid (Ru.firstL (s.data.toList.drop at_) = some (p, 4)) := by
                show _ = _
                rw [HFP.out, if_pos ⟨by rw [HLEN.out]; omega, hsb.out, heq⟩]
              clear heq
              go_wp2_with fail
              refine wp_region_quiet_below (by kernel_rfl) (by kernel_rfl) ?_
              repeat (go_big_quiet_step ((first | (go_at_call 58; exact same_quiet (HSC.out _)) | (go_at_call 42; exact below_quiet (HEN.out _)))))
              refine wpQuiet_nil ?_
              intro w2 hw'
              have hb2 := Lib.hid (bw_below hw')
              clear hw'
              go_wp2
              go_ret2
              exact ⟨by rw [HR.out]; rfl, hb2.out⟩
            · have hbeq : ((strL (Ru.encL p)).toList == (s.extract at_ (at_ + 4)).toList) = false := by
                rw [strL_list, Lib.toList_data, extract_mid]
                exact beq_eq_false_iff_ne.2 heq
              have HR : Hid (Ru.firstL (s.data.toList.drop at_) = none) := by
                show _ = _
                rw [HFP.out, if_neg (fun h => heq h.2.2)]
              clear heq
              go_wp2_with fail
              refine wp_region_quiet_below (by kernel_rfl) (by kernel_rfl) ?_
              repeat (go_big_quiet_step ((first | (go_at_call 58; exact same_quiet (HSC.out _)) | (go_at_call 42; exact below_quiet (HEN.out _)))))
              refine wpQuiet_nil ?_
              intro w2 hw'
              have hb2 := Lib.hid (bw_below hw')
              clear hw'
              go_wp2
              go_ret2
              exact ⟨by rw [HR.out]; rfl, hb2.out⟩
    · have hfz : (s.size : Int) < (at_ : Int) + 4 := by omega
      have HR : Hid (Ru.firstL (s.data.toList.drop at_) = none) := by
        show _ = _
        rw [HF.out _ rfl, if_neg (fun h => by rw [HLEN.out] at h; omega)]
      go_enter Tryd.func46, Tryd.ntmps46
      go_wp2
      go_ret2
      exact ⟨by rw [HR.out]; rfl, Below.refl _ _⟩
  · by_cases hfit : at_ + 3 ≤ s.size
    · have hfz : ¬ (s.size : Int) < (at_ : Int) + 3 := by omega
      go_enter Tryd.func46, Tryd.ntmps46
      go_wp2_with fail
      go_loop [6, 8] (fun vp vi => ∃ (k p : Nat), 1 ≤ k ∧ k ≤ 3 ∧ vi = .int .i64 k ∧ vp = .int .i64 p ∧ Hid (p = Ru.cont p0 ((s.data.toList.drop (at_ + 1)).take (k - 1)))) (fun _ vi => 3 - (intOf vi).toNat)
      case atStart => exact ⟨1, p0, by omega, by omega, rfl, by first | rfl | (congr 1; omega), rfl⟩
      case round =>
        obtain ⟨k, p, hk1, hk2, rfl, rfl, HP⟩ := hrel
        have hpb : p < 67371008 := by rw [HP.out]; exact cont_bound hp0 (by simp; omega)
        by_cases hlt : k < 3
        · have hltz : (k : Int) < 3 := by omega
          have hix : at_ + k < s.size := by omega
          have hbk : (s[at_ + k]'hix).toNat < 256 := UInt8.toNat_lt _
          have HN : Hid (p * 64 + (s[at_ + k]'hix).toNat % 64 = Ru.cont p0 ((s.data.toList.drop (at_ + 1)).take (k + 1 - 1))) := by
            show _ = _
            have := cont_next s p0 at_ k hk1 hix
            rw [this, ← HP.out]
          go_wp2
          go_round
          case rel => exact ⟨k + 1, p * 64 + (s[at_ + k]'hix).toNat % 64, by omega, by omega, by go_num, by first | rfl | (congr 1; omega), HN⟩
          case measure => simp [intOf]; omega
        · have hltz : ¬ (k : Int) < 3 := by omega
          obtain rfl : k = 3 := by omega
          have HFP := Lib.hid (HF.out p HP.out)
          have hsc := fun W => (scalar_any (p : Int) W).mono (R' := fun e w' => e = .returned (.bool (Ru.scalarB p)) ∧ W = w') (fun _ _ h => h)
          obtain ⟨sb, hsb⟩ : ∃ sb, Hid (Ru.scalarB p = sb) := ⟨_, rfl⟩
          rw [hsb.out] at hsc
          have HSC := Lib.hid hsc; clear hsc
          cases sb with
          | false =>
            have HR : Hid (Ru.firstL (s.data.toList.drop at_) = none) := by
              show _ = _
              rw [HFP.out, if_neg (fun h => by rw [hsb.out] at h; cases h.2.1)]
            go_wp2_with fail
            refine wp_region_quiet_below (by kernel_rfl) (by kernel_rfl) ?_
            repeat (go_big_quiet_step ((first | (go_at_call 58; exact same_quiet (HSC.out _)))))
            refine wpQuiet_nil ?_
            intro w2 hw'
            have hb2 := Lib.hid (bw_below hw')
            clear hw'
            go_wp2
            go_ret2
            exact ⟨by rw [HR.out]; rfl, hb2.out⟩
          | true =>
            have hp1 : p ≤ 1114111 := by have := hsb.out; simp [Ru.scalarB] at this; omega
            have HEN : Hid (∀ W : World, Calls Tryd.prog 42 #[.int .i64 p] W fun e w' => e = .returned (.string (strL (Ru.encL p))) ∧ Below W.heap.size W w') := fun W => encoded_any p W hp1
            have hx1 : (at_ : Int) ≤ (at_ : Int) + 3 := by omega
            have hx2 : (at_ : Int) + 3 ≤ (s.size : Int) := by omega
            by_cases heq : Ru.encL p = (s.data.toList.drop at_).take 3
            · have hbeq : ((strL (Ru.encL p)).toList == (s.extract at_ (at_ + 3)).toList) = true := by
                rw [strL_list, Lib.toList_data, extract_mid, heq]
                exact beq_self_eq_true _
              have HR : Hid (Ru.firstL (s.data.toList.drop at_) = some (p, 3)) := by
                show _ = _
                rw [HFP.out, if_pos ⟨by rw [HLEN.out]; omega, hsb.out, heq⟩]
              clear heq
              go_wp2_with fail
              refine wp_region_quiet_below (by kernel_rfl) (by kernel_rfl) ?_
              repeat (go_big_quiet_step ((first | (go_at_call 58; exact same_quiet (HSC.out _)) | (go_at_call 42; exact below_quiet (HEN.out _)))))
              refine wpQuiet_nil ?_
              intro w2 hw'
              have hb2 := Lib.hid (bw_below hw')
              clear hw'
              go_wp2
              go_ret2
              exact ⟨by rw [HR.out]; rfl, hb2.out⟩
            · have hbeq : ((strL (Ru.encL p)).toList == (s.extract at_ (at_ + 3)).toList) = false := by
                rw [strL_list, Lib.toList_data, extract_mid]
                exact beq_eq_false_iff_ne.2 heq
              have HR : Hid (Ru.firstL (s.data.toList.drop at_) = none) := by
                show _ = _
                rw [HFP.out, if_neg (fun h => heq h.2.2)]
              clear heq
              go_wp2_with fail
              refine wp_region_quiet_below (by kernel_rfl) (by kernel_rfl) ?_
              repeat (go_big_quiet_step ((first | (go_at_call 58; exact same_quiet (HSC.out _)) | (go_at_call 42; exact below_quiet (HEN.out _)))))
              refine wpQuiet_nil ?_
              intro w2 hw'
              have hb2 := Lib.hid (bw_below hw')
              clear hw'
              go_wp2
              go_ret2
              exact ⟨by rw [HR.out]; rfl, hb2.out⟩
    · have hfz : (s.size : Int) < (at_ : Int) + 3 := by omega
      have HR : Hid (Ru.firstL (s.data.toList.drop at_) = none) := by
        show _ = _
        rw [HF.out _ rfl, if_neg (fun h => by rw [HLEN.out] at h; omega)]
      go_enter Tryd.func46, Tryd.ntmps46
      go_wp2
      go_ret2
      exact ⟨by rw [HR.out]; rfl, Below.refl _ _⟩
  · by_cases hfit : at_ + 2 ≤ s.size
    · have hfz : ¬ (s.size : Int) < (at_ : Int) + 2 := by omega
      go_enter Tryd.func46, Tryd.ntmps46
      go_wp2_with fail
      go_loop [6, 8] (fun vp vi => ∃ (k p : Nat), 1 ≤ k ∧ k ≤ 2 ∧ vi = .int .i64 k ∧ vp = .int .i64 p ∧ Hid (p = Ru.cont p0 ((s.data.toList.drop (at_ + 1)).take (k - 1)))) (fun _ vi => 2 - (intOf vi).toNat)
      case atStart => exact ⟨1, p0, by omega, by omega, rfl, by first | rfl | (congr 1; omega), rfl⟩
      case round =>
        obtain ⟨k, p, hk1, hk2, rfl, rfl, HP⟩ := hrel
        have hpb : p < 67371008 := by rw [HP.out]; exact cont_bound hp0 (by simp; omega)
        by_cases hlt : k < 2
        · have hltz : (k : Int) < 2 := by omega
          have hix : at_ + k < s.size := by omega
          have hbk : (s[at_ + k]'hix).toNat < 256 := UInt8.toNat_lt _
          have HN : Hid (p * 64 + (s[at_ + k]'hix).toNat % 64 = Ru.cont p0 ((s.data.toList.drop (at_ + 1)).take (k + 1 - 1))) := by
            show _ = _
            have := cont_next s p0 at_ k hk1 hix
            rw [this, ← HP.out]
          go_wp2
          go_round
          case rel => exact ⟨k + 1, p * 64 + (s[at_ + k]'hix).toNat % 64, by omega, by omega, by go_num, by first | rfl | (congr 1; omega), HN⟩
          case measure => simp [intOf]; omega
        · have hltz : ¬ (k : Int) < 2 := by omega
          obtain rfl : k = 2 := by omega
          have HFP := Lib.hid (HF.out p HP.out)
          have hsc := fun W => (scalar_any (p : Int) W).mono (R' := fun e w' => e = .returned (.bool (Ru.scalarB p)) ∧ W = w') (fun _ _ h => h)
          obtain ⟨sb, hsb⟩ : ∃ sb, Hid (Ru.scalarB p = sb) := ⟨_, rfl⟩
          rw [hsb.out] at hsc
          have HSC := Lib.hid hsc; clear hsc
          cases sb with
          | false =>
            have HR : Hid (Ru.firstL (s.data.toList.drop at_) = none) := by
              show _ = _
              rw [HFP.out, if_neg (fun h => by rw [hsb.out] at h; cases h.2.1)]
            go_wp2_with fail
            refine wp_region_quiet_below (by kernel_rfl) (by kernel_rfl) ?_
            repeat (go_big_quiet_step ((first | (go_at_call 58; exact same_quiet (HSC.out _)))))
            refine wpQuiet_nil ?_
            intro w2 hw'
            have hb2 := Lib.hid (bw_below hw')
            clear hw'
            go_wp2
            go_ret2
            exact ⟨by rw [HR.out]; rfl, hb2.out⟩
          | true =>
            have hp1 : p ≤ 1114111 := by have := hsb.out; simp [Ru.scalarB] at this; omega
            have HEN : Hid (∀ W : World, Calls Tryd.prog 42 #[.int .i64 p] W fun e w' => e = .returned (.string (strL (Ru.encL p))) ∧ Below W.heap.size W w') := fun W => encoded_any p W hp1
            have hx1 : (at_ : Int) ≤ (at_ : Int) + 2 := by omega
            have hx2 : (at_ : Int) + 2 ≤ (s.size : Int) := by omega
            by_cases heq : Ru.encL p = (s.data.toList.drop at_).take 2
            · have hbeq : ((strL (Ru.encL p)).toList == (s.extract at_ (at_ + 2)).toList) = true := by
                rw [strL_list, Lib.toList_data, extract_mid, heq]
                exact beq_self_eq_true _
              have HR : Hid (Ru.firstL (s.data.toList.drop at_) = some (p, 2)) := by
                show _ = _
                rw [HFP.out, if_pos ⟨by rw [HLEN.out]; omega, hsb.out, heq⟩]
              clear heq
              go_wp2_with fail
              refine wp_region_quiet_below (by kernel_rfl) (by kernel_rfl) ?_
              repeat (go_big_quiet_step ((first | (go_at_call 58; exact same_quiet (HSC.out _)) | (go_at_call 42; exact below_quiet (HEN.out _)))))
              refine wpQuiet_nil ?_
              intro w2 hw'
              have hb2 := Lib.hid (bw_below hw')
              clear hw'
              go_wp2
              go_ret2
              exact ⟨by rw [HR.out]; rfl, hb2.out⟩
            · have hbeq : ((strL (Ru.encL p)).toList == (s.extract at_ (at_ + 2)).toList) = false := by
                rw [strL_list, Lib.toList_data, extract_mid]
                exact beq_eq_false_iff_ne.2 heq
              have HR : Hid (Ru.firstL (s.data.toList.drop at_) = none) := by
                show _ = _
                rw [HFP.out, if_neg (fun h => heq h.2.2)]
              clear heq
              go_wp2_with fail
              refine wp_region_quiet_below (by kernel_rfl) (by kernel_rfl) ?_
              repeat (go_big_quiet_step ((first | (go_at_call 58; exact same_quiet (HSC.out _)) | (go_at_call 42; exact below_quiet (HEN.out _)))))
              refine wpQuiet_nil ?_
              intro w2 hw'
              have hb2 := Lib.hid (bw_below hw')
              clear hw'
              go_wp2
              go_ret2
              exact ⟨by rw [HR.out]; rfl, hb2.out⟩
    · have hfz : (s.size : Int) < (at_ : Int) + 2 := by omega
      have HR : Hid (Ru.firstL (s.data.toList.drop at_) = none) := by
        show _ = _
        rw [HF.out _ rfl, if_neg (fun h => by rw [HLEN.out] at h; omega)]
      go_enter Tryd.func46, Tryd.ntmps46
      go_wp2
      go_ret2
      exact ⟨by rw [HR.out]; rfl, Below.refl _ _⟩
  · by_cases hfit : at_ + 1 ≤ s.size
    · have hfz : ¬ (s.size : Int) < (at_ : Int) + 1 := by omega
      go_enter Tryd.func46, Tryd.ntmps46
      go_wp2_with fail
      go_loop [6, 8] (fun vp vi => ∃ (k p : Nat), 1 ≤ k ∧ k ≤ 1 ∧ vi = .int .i64 k ∧ vp = .int .i64 p ∧ Hid (p = Ru.cont p0 ((s.data.toList.drop (at_ + 1)).take (k - 1)))) (fun _ vi => 1 - (intOf vi).toNat)
      case atStart => exact ⟨1, p0, by omega, by omega, rfl, by first | rfl | (congr 1; omega), rfl⟩
      case round =>
        obtain ⟨k, p, hk1, hk2, rfl, rfl, HP⟩ := hrel
        have hpb : p < 67371008 := by rw [HP.out]; exact cont_bound hp0 (by simp; omega)
        by_cases hlt : k < 1
        · exfalso; omega
        · have hltz : ¬ (k : Int) < 1 := by omega
          obtain rfl : k = 1 := by omega
          have HFP := Lib.hid (HF.out p HP.out)
          have hsc := fun W => (scalar_any (p : Int) W).mono (R' := fun e w' => e = .returned (.bool (Ru.scalarB p)) ∧ W = w') (fun _ _ h => h)
          obtain ⟨sb, hsb⟩ : ∃ sb, Hid (Ru.scalarB p = sb) := ⟨_, rfl⟩
          rw [hsb.out] at hsc
          have HSC := Lib.hid hsc; clear hsc
          cases sb with
          | false =>
            have HR : Hid (Ru.firstL (s.data.toList.drop at_) = none) := by
              show _ = _
              rw [HFP.out, if_neg (fun h => by rw [hsb.out] at h; cases h.2.1)]
            go_wp2_with fail
            refine wp_region_quiet_below (by kernel_rfl) (by kernel_rfl) ?_
            repeat (go_big_quiet_step ((first | (go_at_call 58; exact same_quiet (HSC.out _)))))
            refine wpQuiet_nil ?_
            intro w2 hw'
            have hb2 := Lib.hid (bw_below hw')
            clear hw'
            go_wp2
            go_ret2
            exact ⟨by rw [HR.out]; rfl, hb2.out⟩
          | true =>
            have hp1 : p ≤ 1114111 := by have := hsb.out; simp [Ru.scalarB] at this; omega
            have HEN : Hid (∀ W : World, Calls Tryd.prog 42 #[.int .i64 p] W fun e w' => e = .returned (.string (strL (Ru.encL p))) ∧ Below W.heap.size W w') := fun W => encoded_any p W hp1
            have hx1 : (at_ : Int) ≤ (at_ : Int) + 1 := by omega
            have hx2 : (at_ : Int) + 1 ≤ (s.size : Int) := by omega
            by_cases heq : Ru.encL p = (s.data.toList.drop at_).take 1
            · have hbeq : ((strL (Ru.encL p)).toList == (s.extract at_ (at_ + 1)).toList) = true := by
                rw [strL_list, Lib.toList_data, extract_mid, heq]
                exact beq_self_eq_true _
              have HR : Hid (Ru.firstL (s.data.toList.drop at_) = some (p, 1)) := by
                show _ = _
                rw [HFP.out, if_pos ⟨by rw [HLEN.out]; omega, hsb.out, heq⟩]
              clear heq
              go_wp2_with fail
              refine wp_region_quiet_below (by kernel_rfl) (by kernel_rfl) ?_
              repeat (go_big_quiet_step ((first | (go_at_call 58; exact same_quiet (HSC.out _)) | (go_at_call 42; exact below_quiet (HEN.out _)))))
              refine wpQuiet_nil ?_
              intro w2 hw'
              have hb2 := Lib.hid (bw_below hw')
              clear hw'
              go_wp2
              go_ret2
              exact ⟨by rw [HR.out]; rfl, hb2.out⟩
            · have hbeq : ((strL (Ru.encL p)).toList == (s.extract at_ (at_ + 1)).toList) = false := by
                rw [strL_list, Lib.toList_data, extract_mid]
                exact beq_eq_false_iff_ne.2 heq
              have HR : Hid (Ru.firstL (s.data.toList.drop at_) = none) := by
                show _ = _
                rw [HFP.out, if_neg (fun h => heq h.2.2)]
              clear heq
              go_wp2_with fail
              refine wp_region_quiet_below (by kernel_rfl) (by kernel_rfl) ?_
              repeat (go_big_quiet_step ((first | (go_at_call 58; exact same_quiet (HSC.out _)) | (go_at_call 42; exact below_quiet (HEN.out _)))))
              refine wpQuiet_nil ?_
              intro w2 hw'
              have hb2 := Lib.hid (bw_below hw')
              clear hw'
              go_wp2
              go_ret2
              exact ⟨by rw [HR.out]; rfl, hb2.out⟩
    · exfalso; omega
end Go.Proofs.YtacfeabdeaikhaaDoor
