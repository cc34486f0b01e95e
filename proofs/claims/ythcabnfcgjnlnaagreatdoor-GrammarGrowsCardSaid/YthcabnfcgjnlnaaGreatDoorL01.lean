import Derived.Test.YthcabnfcgjnlnaaGreatDoorC05
import Derived.Deep.QuietTactic
import Derived.BigQuiet
import Derived.Laws.IdiomStrings
import Derived.Outline
set_option linter.unusedVariables false
set_option linter.unusedSimpArgs false
namespace Go.Proofs.YthcabnfcgjnlnaaGreatDoor.Ru
theorem encI_range {p : Int} (h0 : 0 <= p) (h1 : p <= 1114111) : ∀ v ∈ encI p, 0 <= v /\ v < 256 := by
 intro v hv
 unfold encI at hv
 split at hv
 ·simp at hv; omega
 ·split at hv
  ·simp at hv; omega
  ·split at hv
   ·simp at hv; omega
   ·simp at hv; omega
theorem lead_lt {b : Nat} (h : b < 256) : (lead b).1 < 256 := by
 unfold lead; split
 ·simp; omega
 ·split
  ·simp; omega
  ·split
   ·simp; omega
   ·simp; omega
theorem cont_snoc (p : Nat) (l : List UInt8) (b : UInt8) : cont p (l ++ [b]) = cont p l * 64 + b.toNat % 64 := by simp [cont]
theorem cont_lt (p : Nat) : ∀ (l : List UInt8), cont p l < (p + 1) * 64 ^ l.length := by
 intro l
 induction l generalizing p with
 | nil => simp [cont]
 | cons b t ih =>
  have := ih (p * 64 + b.toNat % 64)
  show cont (p * 64 + b.toNat % 64) t < _
  have h2 : b.toNat % 64 < 64 := Nat.mod_lt _ (by omega)
  refine Nat.lt_of_lt_of_le this ?_
  rw [List.length_cons, Nat.pow_succ, Nat.mul_comm (64 ^ t.length) 64, <- Nat.mul_assoc]
  exact Nat.mul_le_mul_right _ (by omega)
end Go.Proofs.YthcabnfcgjnlnaaGreatDoor.Ru
namespace Go.Proofs.YthcabnfcgjnlnaaGreatDoor
section
open Go.RowKit
theorem same_quiet {P : Program} {f : FuncId} {args : Array Value} {w : World} {p : BW w} {v : Value}
  (h : Calls P f args p.at_ fun e w' => e = .returned v /\ p.at_ = w') : Calls P f args p.at_ fun e w'' => e = .returned v /\ ∃ q : BW w, w'' = q.at_ :=
 h.mono fun _ _ ⟨he, hb⟩ => ⟨he, p, hb.symm⟩
set_option maxHeartbeats 400000 in
theorem scalar_any (p : Int) (w : World) : Calls Tryz.prog 151 #[.int .i64 p] w fun e w' => e = .returned (.bool (Ru.scalarB p)) /\ w = w' := by
 by_cases h1 : 0 <= p
 ·by_cases h2 : p <= 1114111
  ·by_cases h3 : p < 55296
   ·go_enter Tryz.func151, Tryz.ntmps151
    go_wp2
    go_ret
    exact ⟨ret_bool (by simp [Ru.scalarB, h1, h2, h3]), rfl⟩
   ·by_cases h4 : 57343 < p
    ·go_enter Tryz.func151, Tryz.ntmps151
     go_wp2
     go_ret
     exact ⟨ret_bool (by simp [Ru.scalarB, h1, h2, h3, h4]), rfl⟩
    ·go_enter Tryz.func151, Tryz.ntmps151
     go_wp2
     go_ret
     exact ⟨ret_bool (by simp [Ru.scalarB, h1, h2, h3, h4]), rfl⟩
  ·go_enter Tryz.func151, Tryz.ntmps151
   go_wp2
   go_ret
   exact ⟨ret_bool (by simp [Ru.scalarB]; omega), rfl⟩
 ·go_enter Tryz.func151, Tryz.ntmps151
  go_wp2
  go_ret
  exact ⟨ret_bool (by simp [Ru.scalarB]; omega), rfl⟩
theorem conv_bytes (w : World) (vs : List Int) (hv : ∀ v ∈ vs, 0 <= v /\ v < 256) :
  (convert 94 9 (.slice (some ⟨w.heap.size, 0, none⟩) vs.length vs.length)).run Tryz.prog (w.alloc (.cells (vs.map (.int .u8)).toArray 5)) =
   .ok (.string ⟨(vs.map fun v => UInt8.ofNat v.toNat).toArray⟩) (w.alloc (.cells (vs.map (.int .u8)).toArray 5)) := by
 have := run_convert_bytes_back (P := Tryz.prog) (w.alloc (.cells (vs.map (.int .u8)).toArray 5)) 94 9 5 ⟨w.heap.size, 0, none⟩ vs.length (vs.map fun v => UInt8.ofNat v.toNat)
  Tryz.underlying94 Tryz.underlying5 Tryz.underlying9 (fun j hj => by
   have e1 : (⟨w.heap.size, 0, none⟩ : Addr).add j = ⟨w.heap.size, j, none⟩ := by
    unfold Addr.add
    split
    ·rename_i h; simp [h]
    ·simp
   rw [e1, World.cell?_alloc_at _ _ _ _ rfl]
   simp at hj |-
   have := hv vs[j] (List.getElem_mem _)
   rw [show max vs[j] 0 % 256 = vs[j] by omega]
   exact List.getElem?_eq_getElem hj)
 simpa using this
set_option maxRecDepth 1000000 in
set_option maxHeartbeats 800000 in
theorem encoded_any (p : Nat) (w : World) (h : p <= 1114111) :
  Calls Tryz.prog 146 #[.int .i64 p] w fun e w' => e = .returned (.string (strL (Ru.encL p))) /\ Below w.heap.size w w' := by
 have hr := Ru.encI_range (p := p) (by omega) (by omega)
 by_cases h1 : p < 128
 ·have e : Ru.encI p = [(p : Int)] := by unfold Ru.encI; rw [if_pos (by omega)]
  rw [e] at hr
  have hcv := conv_bytes w _ hr
  have E := hI e; clear e hr
  simp only [List.map_cons, List.map_nil, List.length_cons, List.length_nil, Nat.zero_add] at hcv
  go_enter Tryz.func146, Tryz.ntmps146
  go_wp2
  go_ret
  exact ⟨by unfold strL Ru.encL; rw [E.out]; rfl, below_new _ _⟩
 ·by_cases h2 : p < 2048
  ·have e : Ru.encI p = [192 + (p : Int) / 64, 128 + (p : Int) % 64] := by unfold Ru.encI; rw [if_neg (by omega), if_pos (by omega)]
   rw [e] at hr
   have hcv := conv_bytes w _ hr
   have E := hI e; clear e hr
   simp only [List.map_cons, List.map_nil, List.length_cons, List.length_nil, Nat.zero_add, Nat.reduceAdd] at hcv
   go_enter Tryz.func146, Tryz.ntmps146
   go_wp2
   go_ret
   exact ⟨by unfold strL Ru.encL; rw [E.out]; rfl, below_new _ _⟩
  ·by_cases h3 : p < 65536
   ·have e : Ru.encI p = [224 + (p : Int) / 4096, 128 + (p : Int) / 64 % 64, 128 + (p : Int) % 64] := by unfold Ru.encI; rw [if_neg (by omega), if_neg (by omega), if_pos (by omega)]
    rw [e] at hr
    have hcv := conv_bytes w _ hr
    have E := hI e; clear e hr
    simp only [List.map_cons, List.map_nil, List.length_cons, List.length_nil, Nat.zero_add, Nat.reduceAdd] at hcv
    go_enter Tryz.func146, Tryz.ntmps146
    go_wp2
    go_ret
    exact ⟨by unfold strL Ru.encL; rw [E.out]; rfl, below_new _ _⟩
   ·have e : Ru.encI p = [240 + (p : Int) / 262144, 128 + (p : Int) / 4096 % 64, 128 + (p : Int) / 64 % 64, 128 + (p : Int) % 64] := by unfold Ru.encI; rw [if_neg (by omega), if_neg (by omega), if_neg (by omega)]
    rw [e] at hr
    have hcv := conv_bytes w _ hr
    have E := hI e; clear e hr
    simp only [List.map_cons, List.map_nil, List.length_cons, List.length_nil, Nat.zero_add, Nat.reduceAdd] at hcv
    go_enter Tryz.func146, Tryz.ntmps146
    go_wp2
    go_ret
    exact ⟨by unfold strL Ru.encL; rw [E.out]; rfl, below_new _ _⟩
theorem drop_cons_at (s : ByteArray) (at_ : Nat) (h : at_ < s.size) : s.data.toList.drop at_ = s[at_] :: s.data.toList.drop (at_ + 1) := by
 rw [List.drop_eq_getElem_cons (by rw [<- Lib.size_eq]; exact h)]
 rfl
theorem extract_mid (s : ByteArray) (a n : Nat) : (s.extract a (a + n)).data.toList = (s.data.toList.drop a).take n := by
 rw [Lib.extract_data]
 congr 1
 omega
theorem strL_list (l : List UInt8) : (strL l).toList = l := by rw [Lib.toList_data]; simp [strL]
theorem cont_bound {p0 : Nat} {l : List UInt8} (hp : p0 < 256) (hl : l.length <= 3) : Ru.cont p0 l < 67371008 := by
 refine Nat.lt_of_lt_of_le (Ru.cont_lt p0 l) ?_
 have h1 : 64 ^ l.length <= 64 ^ 3 := Nat.pow_le_pow_right (by omega) hl
 have h2 : (p0 + 1) * 64 ^ l.length <= 257 * 64 ^ 3 := Nat.mul_le_mul (by omega) h1
 exact Nat.le_trans h2 (by decide)
theorem cont_next (s : ByteArray) (p0 at_ k : Nat) (hk : 1 <= k) (h : at_ + k < s.size) :
  Ru.cont p0 ((s.data.toList.drop (at_ + 1)).take (k + 1 - 1)) = Ru.cont p0 ((s.data.toList.drop (at_ + 1)).take (k - 1)) * 64 + (s[at_ + k]'h).toNat % 64 := by
 have e : (s.data.toList.drop (at_ + 1)).take (k + 1 - 1) = (s.data.toList.drop (at_ + 1)).take (k - 1) ++ [s[at_ + k]'h] := by
  rw [show k + 1 - 1 = (k - 1) + 1 by omega, List.take_add_one]
  congr 1
  rw [List.getElem?_drop, show at_ + 1 + (k - 1) = at_ + k by omega, List.getElem?_eq_getElem (by rw [<- Lib.size_eq]; exact h)]
  rfl
 rw [e, Ru.cont_snoc]
theorem lead_cases (b : Nat) : ∃ p0 n0, Hid (Ru.lead b = (p0, n0)) /\ ((240 <= b /\ p0 + 240 = b /\ n0 = 4) ∨ (b < 240 /\ 224 <= b /\ p0 + 224 = b /\ n0 = 3) ∨ (b < 224 /\ 192 <= b /\ p0 + 192 = b /\ n0 = 2) ∨ (b < 192 /\ p0 = b /\ n0 = 1)) := by
 by_cases h1 : 240 <= b
 ·exact ⟨b - 240, 4, (show Ru.lead b = _ by unfold Ru.lead; rw [if_pos h1]), .inl ⟨h1, by omega, rfl⟩⟩
 ·by_cases h2 : 224 <= b
  ·exact ⟨b - 224, 3, (show Ru.lead b = _ by unfold Ru.lead; rw [if_neg h1, if_pos h2]), .inr (.inl ⟨by omega, h2, by omega, rfl⟩)⟩
  ·by_cases h3 : 192 <= b
   ·exact ⟨b - 192, 2, (show Ru.lead b = _ by unfold Ru.lead; rw [if_neg h1, if_neg h2, if_pos h3]), .inr (.inr (.inl ⟨by omega, h3, by omega, rfl⟩))⟩
   ·exact ⟨b, 1, (show Ru.lead b = _ by unfold Ru.lead; rw [if_neg h1, if_neg h2, if_neg h3]), .inr (.inr (.inr ⟨by omega, rfl, rfl⟩))⟩
def firstV (o : Option (Nat × Nat)) : Value :=
 match o with
 | none => .tuple #[.int .i64 (-1), .int .i64 0]
 | some (p, n) => .tuple #[.int .i64 p, .int .i64 n]
set_option maxRecDepth 1000000 in
set_option maxHeartbeats 4000000 in
theorem first02_any (s : ByteArray) (at_ : Nat) (w : World) (hr : at_ < s.size) (hs : s.size <= 1099511627776) :
    Calls Tryz.prog 130 #[.string s, .int .i64 at_] w fun e w' => e = .returned (firstV (Ru.firstL (s.data.toList.drop at_))) /\ Below w.heap.size w w' := by
  have hb0 : (s[at_]'hr).toNat < 256 := UInt8.toNat_lt _
  obtain ⟨p0, n0, HL, hcase⟩ : ∃ p0 n0, Hid (Ru.lead (s[at_]'hr).toNat = (p0, n0)) /\ ((240 <= (s[at_]'hr).toNat /\ p0 + 240 = (s[at_]'hr).toNat /\ n0 = 4) ∨ ((s[at_]'hr).toNat < 240 /\ 224 <= (s[at_]'hr).toNat /\ p0 + 224 = (s[at_]'hr).toNat /\ n0 = 3) ∨
      ((s[at_]'hr).toNat < 224 /\ 192 <= (s[at_]'hr).toNat /\ p0 + 192 = (s[at_]'hr).toNat /\ n0 = 2) ∨ ((s[at_]'hr).toNat < 192 /\ p0 = (s[at_]'hr).toNat /\ n0 = 1)) := by
    exact lead_cases _
  have HD := hI (drop_cons_at s at_ hr)
  have hp0 : p0 < 256 := by have := Ru.lead_lt hb0; rw [HL.out] at this; exact this
  have HF : Hid (∀ p, p = Ru.cont p0 ((s.data.toList.drop (at_ + 1)).take (n0 - 1)) -> Ru.firstL (s.data.toList.drop at_) = if n0 <= (s.data.toList.drop (at_ + 1)).length + 1 /\ Ru.scalarB p = true /\ Ru.encL p = (s.data.toList.drop at_).take n0 then some (p, n0) else none) := fun p hp => by
    rw [HD.out]
    simp only [Ru.firstL, HL.out]
    rw [<- hp]
  have HLEN : Hid ((s.data.toList.drop (at_ + 1)).length + 1 = s.size - at_) := by
    show _ = _
    rw [List.length_drop, <- Lib.size_eq]
    omega
  clear HL
  rcases hcase with ⟨g1, g2, rfl⟩ | ⟨g0, g1, g2, rfl⟩ | ⟨g0, g1, g2, rfl⟩ | ⟨g0, g2, rfl⟩
  · by_cases hfit : at_ + 4 <= s.size
    · have hfz : ¬ (s.size : Int) < (at_ : Int) + 4 := by omega
      go_enter Tryz.func130, Tryz.ntmps130
      go_wp2_with fail
      go_loop [6, 8] (fun vp vi => ∃ (k p : Nat), 1 <= k /\ k <= 4 /\ vi = .int .i64 k /\ vp = .int .i64 p /\ Hid (p = Ru.cont p0 ((s.data.toList.drop (at_ + 1)).take (k - 1)))) (fun _ vi => 4 - (intOf vi).toNat)
      case atStart => exact ⟨1, p0, by omega, by omega, rfl, by first | rfl | (congr 1; omega), rfl⟩
      case round =>
        obtain ⟨k, p, hk1, hk2, rfl, rfl, HP⟩ := hrel
        have hpb : p < 67371008 := by rw [HP.out]; exact cont_bound hp0 (by simp; omega)
        by_cases hlt : k < 4
        · have hltz : (k : Int) < 4 := by omega
          have hix : at_ + k < s.size := by omega
          have hbk : (s[at_ + k]'hix).toNat < 256 := UInt8.toNat_lt _
          have HN : Hid (p * 64 + (s[at_ + k]'hix).toNat % 64 = Ru.cont p0 ((s.data.toList.drop (at_ + 1)).take (k + 1 - 1))) := by
            show _ = _
            have := cont_next s p0 at_ k hk1 hix
            rw [this, <- HP.out]
          go_wp2
          go_round
          case rel => exact ⟨k + 1, p * 64 + (s[at_ + k]'hix).toNat % 64, by omega, by omega, by go_num, by first | rfl | (congr 1; omega), HN⟩
          case measure => simp [intOf]; omega
        · have hltz : ¬ (k : Int) < 4 := by omega
          obtain rfl : k = 4 := by omega
          have HFP := hI (HF.out p HP.out)
          have hsc := fun W => (scalar_any (p : Int) W).mono (R' := fun e w' => e = .returned (.bool (Ru.scalarB p)) /\ W = w') (fun _ _ h => h)
          obtain ⟨sb, hsb⟩ : ∃ sb, Hid (Ru.scalarB p = sb) := ⟨_, rfl⟩
          rw [hsb.out] at hsc
          have HSC := hI hsc; clear hsc
          cases sb with
          | false =>
            have HR : Hid (Ru.firstL (s.data.toList.drop at_) = none) := by
              show _ = _
              rw [HFP.out, if_neg (fun h => by rw [hsb.out] at h; cases h.2.1)]
            go_wp2_with fail
            refine wp_region_quiet_below (by kernel_rfl) (by kernel_rfl) ?_
            repeat (go_big_quiet_step ((first | (go_at_call 151; exact same_quiet (HSC.out _)))))
            refine wpQuiet_nil ?_
            intro w2 hw'
            have hb2 := hI (bw_below hw')
            clear hw'
            go_wp2
            go_ret2
            exact ⟨by rw [HR.out]; rfl, hb2.out⟩
          | true =>
            have hp1 : p <= 1114111 := by have := hsb.out; simp [Ru.scalarB] at this; omega
            have HEN : Hid (∀ W : World, Calls Tryz.prog 146 #[.int .i64 p] W fun e w' => e = .returned (.string (strL (Ru.encL p))) /\ Below W.heap.size W w') := fun W => encoded_any p W hp1
            have hx1 : (at_ : Int) <= (at_ : Int) + 4 := by omega
            have hx2 : (at_ : Int) + 4 <= (s.size : Int) := by omega
            by_cases heq : Ru.encL p = (s.data.toList.drop at_).take 4
            · have hbeq : ((strL (Ru.encL p)).toList == (s.extract at_ (at_ + 4)).toList) = true := by
                rw [strL_list, Lib.toList_data, extract_mid, heq]
                exact beq_self_eq_true _
              have HR : Hid (Ru.firstL (s.data.toList.drop at_) = some (p, 4)) := by
                show _ = _
                rw [HFP.out, if_pos ⟨by rw [HLEN.out]; omega, hsb.out, heq⟩]
              clear heq
              go_wp2_with fail
              refine wp_region_quiet_below (by kernel_rfl) (by kernel_rfl) ?_
              repeat (go_big_quiet_step ((first | (go_at_call 151; exact same_quiet (HSC.out _)) | (go_at_call 146; exact below_quiet (HEN.out _)))))
              refine wpQuiet_nil ?_
              intro w2 hw'
              have hb2 := hI (bw_below hw')
              clear hw'
              go_wp2
              go_ret2
              exact ⟨by rw [HR.out]; rfl, hb2.out⟩
            · have hbeq : ((strL (Ru.encL p)).toList == (s.extract at_ (at_ + 4)).toList) = false := by
                rw [strL_list, Lib.toList_data, extract_mid]
                exact beq_eq_false_iff_ne.2 heq
              have HR : Hid (Ru.firstL (s.data.toList.drop at_) = none) := by
                show _ = _
                rw [HFP.out, if_neg (fun h => heq h.2.2)]
              clear heq
              go_wp2_with fail
              refine wp_region_quiet_below (by kernel_rfl) (by kernel_rfl) ?_
              repeat (go_big_quiet_step ((first | (go_at_call 151; exact same_quiet (HSC.out _)) | (go_at_call 146; exact below_quiet (HEN.out _)))))
              refine wpQuiet_nil ?_
              intro w2 hw'
              have hb2 := hI (bw_below hw')
              clear hw'
              go_wp2
              go_ret2
              exact ⟨by rw [HR.out]; rfl, hb2.out⟩
    · have hfz : (s.size : Int) < (at_ : Int) + 4 := by omega
      have HR : Hid (Ru.firstL (s.data.toList.drop at_) = none) := by
        show _ = _
        rw [HF.out _ rfl, if_neg (fun h => by rw [HLEN.out] at h; omega)]
      go_enter Tryz.func130, Tryz.ntmps130
      go_wp2
      go_ret2
      exact ⟨by rw [HR.out]; rfl, Below.refl _ _⟩
  · by_cases hfit : at_ + 3 <= s.size
    · have hfz : ¬ (s.size : Int) < (at_ : Int) + 3 := by omega
      go_enter Tryz.func130, Tryz.ntmps130
      go_wp2_with fail
      go_loop [6, 8] (fun vp vi => ∃ (k p : Nat), 1 <= k /\ k <= 3 /\ vi = .int .i64 k /\ vp = .int .i64 p /\ Hid (p = Ru.cont p0 ((s.data.toList.drop (at_ + 1)).take (k - 1)))) (fun _ vi => 3 - (intOf vi).toNat)
      case atStart => exact ⟨1, p0, by omega, by omega, rfl, by first | rfl | (congr 1; omega), rfl⟩
      case round =>
        obtain ⟨k, p, hk1, hk2, rfl, rfl, HP⟩ := hrel
        have hpb : p < 67371008 := by rw [HP.out]; exact cont_bound hp0 (by simp; omega)
        by_cases hlt : k < 3
        · have hltz : (k : Int) < 3 := by omega
          have hix : at_ + k < s.size := by omega
          have hbk : (s[at_ + k]'hix).toNat < 256 := UInt8.toNat_lt _
          have HN : Hid (p * 64 + (s[at_ + k]'hix).toNat % 64 = Ru.cont p0 ((s.data.toList.drop (at_ + 1)).take (k + 1 - 1))) := by
            show _ = _
            have := cont_next s p0 at_ k hk1 hix
            rw [this, <- HP.out]
          go_wp2
          go_round
          case rel => exact ⟨k + 1, p * 64 + (s[at_ + k]'hix).toNat % 64, by omega, by omega, by go_num, by first | rfl | (congr 1; omega), HN⟩
          case measure => simp [intOf]; omega
        · have hltz : ¬ (k : Int) < 3 := by omega
          obtain rfl : k = 3 := by omega
          have HFP := hI (HF.out p HP.out)
          have hsc := fun W => (scalar_any (p : Int) W).mono (R' := fun e w' => e = .returned (.bool (Ru.scalarB p)) /\ W = w') (fun _ _ h => h)
          obtain ⟨sb, hsb⟩ : ∃ sb, Hid (Ru.scalarB p = sb) := ⟨_, rfl⟩
          rw [hsb.out] at hsc
          have HSC := hI hsc; clear hsc
          cases sb with
          | false =>
            have HR : Hid (Ru.firstL (s.data.toList.drop at_) = none) := by
              show _ = _
              rw [HFP.out, if_neg (fun h => by rw [hsb.out] at h; cases h.2.1)]
            go_wp2_with fail
            refine wp_region_quiet_below (by kernel_rfl) (by kernel_rfl) ?_
            repeat (go_big_quiet_step ((first | (go_at_call 151; exact same_quiet (HSC.out _)))))
            refine wpQuiet_nil ?_
            intro w2 hw'
            have hb2 := hI (bw_below hw')
            clear hw'
            go_wp2
            go_ret2
            exact ⟨by rw [HR.out]; rfl, hb2.out⟩
          | true =>
            have hp1 : p <= 1114111 := by have := hsb.out; simp [Ru.scalarB] at this; omega
            have HEN : Hid (∀ W : World, Calls Tryz.prog 146 #[.int .i64 p] W fun e w' => e = .returned (.string (strL (Ru.encL p))) /\ Below W.heap.size W w') := fun W => encoded_any p W hp1
            have hx1 : (at_ : Int) <= (at_ : Int) + 3 := by omega
            have hx2 : (at_ : Int) + 3 <= (s.size : Int) := by omega
            by_cases heq : Ru.encL p = (s.data.toList.drop at_).take 3
            · have hbeq : ((strL (Ru.encL p)).toList == (s.extract at_ (at_ + 3)).toList) = true := by
                rw [strL_list, Lib.toList_data, extract_mid, heq]
                exact beq_self_eq_true _
              have HR : Hid (Ru.firstL (s.data.toList.drop at_) = some (p, 3)) := by
                show _ = _
                rw [HFP.out, if_pos ⟨by rw [HLEN.out]; omega, hsb.out, heq⟩]
              clear heq
              go_wp2_with fail
              refine wp_region_quiet_below (by kernel_rfl) (by kernel_rfl) ?_
              repeat (go_big_quiet_step ((first | (go_at_call 151; exact same_quiet (HSC.out _)) | (go_at_call 146; exact below_quiet (HEN.out _)))))
              refine wpQuiet_nil ?_
              intro w2 hw'
              have hb2 := hI (bw_below hw')
              clear hw'
              go_wp2
              go_ret2
              exact ⟨by rw [HR.out]; rfl, hb2.out⟩
            · have hbeq : ((strL (Ru.encL p)).toList == (s.extract at_ (at_ + 3)).toList) = false := by
                rw [strL_list, Lib.toList_data, extract_mid]
                exact beq_eq_false_iff_ne.2 heq
              have HR : Hid (Ru.firstL (s.data.toList.drop at_) = none) := by
                show _ = _
                rw [HFP.out, if_neg (fun h => heq h.2.2)]
              clear heq
              go_wp2_with fail
              refine wp_region_quiet_below (by kernel_rfl) (by kernel_rfl) ?_
              repeat (go_big_quiet_step ((first | (go_at_call 151; exact same_quiet (HSC.out _)) | (go_at_call 146; exact below_quiet (HEN.out _)))))
              refine wpQuiet_nil ?_
              intro w2 hw'
              have hb2 := hI (bw_below hw')
              clear hw'
              go_wp2
              go_ret2
              exact ⟨by rw [HR.out]; rfl, hb2.out⟩
    · have hfz : (s.size : Int) < (at_ : Int) + 3 := by omega
      have HR : Hid (Ru.firstL (s.data.toList.drop at_) = none) := by
        show _ = _
        rw [HF.out _ rfl, if_neg (fun h => by rw [HLEN.out] at h; omega)]
      go_enter Tryz.func130, Tryz.ntmps130
      go_wp2
      go_ret2
      exact ⟨by rw [HR.out]; rfl, Below.refl _ _⟩
  · by_cases hfit : at_ + 2 <= s.size
    · have hfz : ¬ (s.size : Int) < (at_ : Int) + 2 := by omega
      go_enter Tryz.func130, Tryz.ntmps130
      go_wp2_with fail
      go_loop [6, 8] (fun vp vi => ∃ (k p : Nat), 1 <= k /\ k <= 2 /\ vi = .int .i64 k /\ vp = .int .i64 p /\ Hid (p = Ru.cont p0 ((s.data.toList.drop (at_ + 1)).take (k - 1)))) (fun _ vi => 2 - (intOf vi).toNat)
      case atStart => exact ⟨1, p0, by omega, by omega, rfl, by first | rfl | (congr 1; omega), rfl⟩
      case round =>
        obtain ⟨k, p, hk1, hk2, rfl, rfl, HP⟩ := hrel
        have hpb : p < 67371008 := by rw [HP.out]; exact cont_bound hp0 (by simp; omega)
        by_cases hlt : k < 2
        · have hltz : (k : Int) < 2 := by omega
          have hix : at_ + k < s.size := by omega
          have hbk : (s[at_ + k]'hix).toNat < 256 := UInt8.toNat_lt _
          have HN : Hid (p * 64 + (s[at_ + k]'hix).toNat % 64 = Ru.cont p0 ((s.data.toList.drop (at_ + 1)).take (k + 1 - 1))) := by
            show _ = _
            have := cont_next s p0 at_ k hk1 hix
            rw [this, <- HP.out]
          go_wp2
          go_round
          case rel => exact ⟨k + 1, p * 64 + (s[at_ + k]'hix).toNat % 64, by omega, by omega, by go_num, by first | rfl | (congr 1; omega), HN⟩
          case measure => simp [intOf]; omega
        · have hltz : ¬ (k : Int) < 2 := by omega
          obtain rfl : k = 2 := by omega
          have HFP := hI (HF.out p HP.out)
          have hsc := fun W => (scalar_any (p : Int) W).mono (R' := fun e w' => e = .returned (.bool (Ru.scalarB p)) /\ W = w') (fun _ _ h => h)
          obtain ⟨sb, hsb⟩ : ∃ sb, Hid (Ru.scalarB p = sb) := ⟨_, rfl⟩
          rw [hsb.out] at hsc
          have HSC := hI hsc; clear hsc
          cases sb with
          | false =>
            have HR : Hid (Ru.firstL (s.data.toList.drop at_) = none) := by
              show _ = _
              rw [HFP.out, if_neg (fun h => by rw [hsb.out] at h; cases h.2.1)]
            go_wp2_with fail
            refine wp_region_quiet_below (by kernel_rfl) (by kernel_rfl) ?_
            repeat (go_big_quiet_step ((first | (go_at_call 151; exact same_quiet (HSC.out _)))))
            refine wpQuiet_nil ?_
            intro w2 hw'
            have hb2 := hI (bw_below hw')
            clear hw'
            go_wp2
            go_ret2
            exact ⟨by rw [HR.out]; rfl, hb2.out⟩
          | true =>
            have hp1 : p <= 1114111 := by have := hsb.out; simp [Ru.scalarB] at this; omega
            have HEN : Hid (∀ W : World, Calls Tryz.prog 146 #[.int .i64 p] W fun e w' => e = .returned (.string (strL (Ru.encL p))) /\ Below W.heap.size W w') := fun W => encoded_any p W hp1
            have hx1 : (at_ : Int) <= (at_ : Int) + 2 := by omega
            have hx2 : (at_ : Int) + 2 <= (s.size : Int) := by omega
            by_cases heq : Ru.encL p = (s.data.toList.drop at_).take 2
            · have hbeq : ((strL (Ru.encL p)).toList == (s.extract at_ (at_ + 2)).toList) = true := by
                rw [strL_list, Lib.toList_data, extract_mid, heq]
                exact beq_self_eq_true _
              have HR : Hid (Ru.firstL (s.data.toList.drop at_) = some (p, 2)) := by
                show _ = _
                rw [HFP.out, if_pos ⟨by rw [HLEN.out]; omega, hsb.out, heq⟩]
              clear heq
              go_wp2_with fail
              refine wp_region_quiet_below (by kernel_rfl) (by kernel_rfl) ?_
              repeat (go_big_quiet_step ((first | (go_at_call 151; exact same_quiet (HSC.out _)) | (go_at_call 146; exact below_quiet (HEN.out _)))))
              refine wpQuiet_nil ?_
              intro w2 hw'
              have hb2 := hI (bw_below hw')
              clear hw'
              go_wp2
              go_ret2
              exact ⟨by rw [HR.out]; rfl, hb2.out⟩
            · have hbeq : ((strL (Ru.encL p)).toList == (s.extract at_ (at_ + 2)).toList) = false := by
                rw [strL_list, Lib.toList_data, extract_mid]
                exact beq_eq_false_iff_ne.2 heq
              have HR : Hid (Ru.firstL (s.data.toList.drop at_) = none) := by
                show _ = _
                rw [HFP.out, if_neg (fun h => heq h.2.2)]
              clear heq
              go_wp2_with fail
              refine wp_region_quiet_below (by kernel_rfl) (by kernel_rfl) ?_
              repeat (go_big_quiet_step ((first | (go_at_call 151; exact same_quiet (HSC.out _)) | (go_at_call 146; exact below_quiet (HEN.out _)))))
              refine wpQuiet_nil ?_
              intro w2 hw'
              have hb2 := hI (bw_below hw')
              clear hw'
              go_wp2
              go_ret2
              exact ⟨by rw [HR.out]; rfl, hb2.out⟩
    · have hfz : (s.size : Int) < (at_ : Int) + 2 := by omega
      have HR : Hid (Ru.firstL (s.data.toList.drop at_) = none) := by
        show _ = _
        rw [HF.out _ rfl, if_neg (fun h => by rw [HLEN.out] at h; omega)]
      go_enter Tryz.func130, Tryz.ntmps130
      go_wp2
      go_ret2
      exact ⟨by rw [HR.out]; rfl, Below.refl _ _⟩
  · by_cases hfit : at_ + 1 <= s.size
    · have hfz : ¬ (s.size : Int) < (at_ : Int) + 1 := by omega
      go_enter Tryz.func130, Tryz.ntmps130
      go_wp2_with fail
      go_loop [6, 8] (fun vp vi => ∃ (k p : Nat), 1 <= k /\ k <= 1 /\ vi = .int .i64 k /\ vp = .int .i64 p /\ Hid (p = Ru.cont p0 ((s.data.toList.drop (at_ + 1)).take (k - 1)))) (fun _ vi => 1 - (intOf vi).toNat)
      case atStart => exact ⟨1, p0, by omega, by omega, rfl, by first | rfl | (congr 1; omega), rfl⟩
      case round =>
        obtain ⟨k, p, hk1, hk2, rfl, rfl, HP⟩ := hrel
        have hpb : p < 67371008 := by rw [HP.out]; exact cont_bound hp0 (by simp; omega)
        by_cases hlt : k < 1
        · exfalso; omega
        · have hltz : ¬ (k : Int) < 1 := by omega
          obtain rfl : k = 1 := by omega
          have HFP := hI (HF.out p HP.out)
          have hsc := fun W => (scalar_any (p : Int) W).mono (R' := fun e w' => e = .returned (.bool (Ru.scalarB p)) /\ W = w') (fun _ _ h => h)
          obtain ⟨sb, hsb⟩ : ∃ sb, Hid (Ru.scalarB p = sb) := ⟨_, rfl⟩
          rw [hsb.out] at hsc
          have HSC := hI hsc; clear hsc
          cases sb with
          | false =>
            have HR : Hid (Ru.firstL (s.data.toList.drop at_) = none) := by
              show _ = _
              rw [HFP.out, if_neg (fun h => by rw [hsb.out] at h; cases h.2.1)]
            go_wp2_with fail
            refine wp_region_quiet_below (by kernel_rfl) (by kernel_rfl) ?_
            repeat (go_big_quiet_step ((first | (go_at_call 151; exact same_quiet (HSC.out _)))))
            refine wpQuiet_nil ?_
            intro w2 hw'
            have hb2 := hI (bw_below hw')
            clear hw'
            go_wp2
            go_ret2
            exact ⟨by rw [HR.out]; rfl, hb2.out⟩
          | true =>
            have hp1 : p <= 1114111 := by have := hsb.out; simp [Ru.scalarB] at this; omega
            have HEN : Hid (∀ W : World, Calls Tryz.prog 146 #[.int .i64 p] W fun e w' => e = .returned (.string (strL (Ru.encL p))) /\ Below W.heap.size W w') := fun W => encoded_any p W hp1
            have hx1 : (at_ : Int) <= (at_ : Int) + 1 := by omega
            have hx2 : (at_ : Int) + 1 <= (s.size : Int) := by omega
            by_cases heq : Ru.encL p = (s.data.toList.drop at_).take 1
            · have hbeq : ((strL (Ru.encL p)).toList == (s.extract at_ (at_ + 1)).toList) = true := by
                rw [strL_list, Lib.toList_data, extract_mid, heq]
                exact beq_self_eq_true _
              have HR : Hid (Ru.firstL (s.data.toList.drop at_) = some (p, 1)) := by
                show _ = _
                rw [HFP.out, if_pos ⟨by rw [HLEN.out]; omega, hsb.out, heq⟩]
              clear heq
              go_wp2_with fail
              refine wp_region_quiet_below (by kernel_rfl) (by kernel_rfl) ?_
              repeat (go_big_quiet_step ((first | (go_at_call 151; exact same_quiet (HSC.out _)) | (go_at_call 146; exact below_quiet (HEN.out _)))))
              refine wpQuiet_nil ?_
              intro w2 hw'
              have hb2 := hI (bw_below hw')
              clear hw'
              go_wp2
              go_ret2
              exact ⟨by rw [HR.out]; rfl, hb2.out⟩
            · have hbeq : ((strL (Ru.encL p)).toList == (s.extract at_ (at_ + 1)).toList) = false := by
                rw [strL_list, Lib.toList_data, extract_mid]
                exact beq_eq_false_iff_ne.2 heq
              have HR : Hid (Ru.firstL (s.data.toList.drop at_) = none) := by
                show _ = _
                rw [HFP.out, if_neg (fun h => heq h.2.2)]
              clear heq
              go_wp2_with fail
              refine wp_region_quiet_below (by kernel_rfl) (by kernel_rfl) ?_
              repeat (go_big_quiet_step ((first | (go_at_call 151; exact same_quiet (HSC.out _)) | (go_at_call 146; exact below_quiet (HEN.out _)))))
              refine wpQuiet_nil ?_
              intro w2 hw'
              have hb2 := hI (bw_below hw')
              clear hw'
              go_wp2
              go_ret2
              exact ⟨by rw [HR.out]; rfl, hb2.out⟩
    · exfalso; omega
theorem scalar_le {p : Nat} (h : Ru.scalarB (p : Int) = true) : p <= 1114111 := by
 unfold Ru.scalarB at h
 rw [Bool.and_eq_true, Bool.and_eq_true] at h
 have := of_decide_eq_true h.1.2
 omega
set_option maxHeartbeats 1000000 in
set_option maxRecDepth 100000 in
theorem points02_any (s : ByteArray) (w : World) (hs : s.size <= 1099511627776) :
    Calls Tryz.prog 110 #[.string s] w (PointsPost w (Ru.points s.data.toList)) := by
  obtain ⟨i0, hi, hz0, hz1, hz2⟩ := info_parts info_int
  go_enter Tryz.func110, Tryz.ntmps110
  go_wp2_with fail
  go_loopw [4, 5, 6, 7] (fun v4 v5 _ _ wr => ∃ (at_ : Nat) (d : List Nat), at_ <= s.size /\ v5 = .int .i64 at_ /\ d.length <= at_ /\ wr.ownsRow w.heap.size 3 1 v4 d.length (d.map fun (p : Nat) => Value.int .i64 (p : Int)) /\
    Hid (Ru.points s.data.toList = (Ru.points (s.data.toList.drop at_)).map (d ++ ·)) /\ Hid (Below w.heap.size w wr)) (fun _ v5 _ _ _ => s.size - (intOf v5).toNat)
  case atStart => exact ⟨0, [], Nat.zero_le _, rfl, Nat.le_refl _, World.ownsRow_nil _ _ _ _, (show _ = _ by cases h : Ru.points s.data.toList <;> simp [h]), Below.refl _ _⟩
  case round =>
    obtain ⟨at_, d, hat, rfl, hda, hown, HD, HB⟩ := hrel
    have hszw := HB.out.size
    by_cases hr : at_ < s.size
    · have hne : s.data.toList.drop at_ ≠ [] := by
        intro h0
        have := congrArg List.length h0
        rw [List.length_drop, <- Lib.size_eq] at this
        simp at this
        omega
      have HF := hI (first02_any s at_ wr hr hs)
      obtain ⟨o, ho⟩ : ∃ o, Hid (Ru.firstL (s.data.toList.drop at_) = o) := ⟨_, rfl⟩
      rw [ho.out] at HF
      have HOWN := hI hown; clear hown
      cases o with
      | none =>
        have HP : Hid (Ru.points s.data.toList = none) := by
          show _ = _
          rw [HD.out, Ru.points_none hne ho.out]
          rfl
        go_wp2_with fail
        refine HF.out.mono ?_
        rintro e w1 ⟨rfl, hb1⟩
        have HB1 := hI hb1; clear hb1
        unfold firstV
        go_wp2
        go_ret2
        refine ⟨fun _ => rfl, (fun d hd => by rw [HP.out] at hd; cases hd), HB.out.trans (HB1.out.mono hszw)⟩
      | some pn =>
        obtain ⟨p, n⟩ := pn
        obtain ⟨f1, f2, f3, f4, _⟩ := Ru.firstL_some ho.out
        rw [List.length_drop, <- Lib.size_eq] at f3
        have hp1 : p <= 1114111 := scalar_le f4
        clear f4
        have HP : Hid (Ru.points s.data.toList = (Ru.points (s.data.toList.drop (at_ + n))).map ((d ++ [p]) ++ ·)) := by
          show _ = _
          rw [HD.out, Ru.points_some ho.out, List.drop_drop, Option.map_map]
          congr 1
          funext x
          simp
        have hn0 : ((n : Int) == 0) = false := beq_eq_false_iff_ne.2 (by omega)
        go_wp2_with fail
        refine HF.out.mono ?_
        rintro e w1 ⟨rfl, hb1⟩
        have HB1 := hI hb1; clear hb1
        have HOWN1 := hI (own_below HOWN.out HB1.out)
        have hszw1 : w.heap.size <= w1.heap.size := Nat.le_trans hszw HB1.out.size
        have HBB : Hid (Below w.heap.size w w1) := HB.out.trans (HB1.out.mono hszw)
        clear HOWN HB1
        unfold firstV
        go_wp2_with (at_builtin; refine wpList_app1 rfl (.tmp 20) (.tmp 22) _ rfl w.heap.size 3 8 _ info_int rfl Tryz.underlying32 rfl HOWN1.out rfl rfl (by omega) (by omega) (by omega) ?_; rintro v7 w2 hown7 hb2 hs2 hk2; clear hk2)
        have HB2 := hI hb2; clear hb2
        go_roundw
        case rel => exact ⟨at_ + n, d ++ [p], by omega, by go_num, by simp; omega, by simpa using hown7, HP, HBB.out.trans HB2.out⟩
        case measure => simp [intOf]; omega
    · have hat' : at_ = s.size := by omega
      have HP : Hid (Ru.points s.data.toList = some d) := by
        show _ = _
        rw [HD.out, hat', Lib.size_eq, List.drop_length, Ru.points_nil]
        simp
      clear hat'
      go_wp2
      go_ret2
      refine ⟨(fun h => by rw [HP.out] at h; cases h), fun d' hd => ?_, HB.out⟩
      rw [HP.out] at hd
      cases hd
      exact ⟨_, rfl, hown⟩
end
end Go.Proofs.YthcabnfcgjnlnaaGreatDoor
namespace Go.Proofs.YthcabnfcgjnlnaaGreatDoor.Ok
def allTo (f : Nat -> Bool) : Nat -> Bool
 | 0 => true
 | k + 1 => allTo f k && f k
theorem allTo_iff {f : Nat -> Bool} : ∀ {n : Nat}, allTo f n = true ↔ ∀ i, i < n -> f i = true
 | 0 => by simp [allTo]
 | n + 1 => by
  simp only [allTo, Bool.and_eq_true, allTo_iff (n := n)]
  constructor
  ·intro ⟨h1, h2⟩ i hi
   by_cases e : i = n
   ·subst e; exact h2
   ·exact h1 i (by omega)
  ·intro h
   exact ⟨fun i hi => h i (by omega), h n (by omega)⟩
theorem allTo_next {f : Nat -> Bool} {k : Nat} (h : allTo f k = true) (hk : f k = true) : allTo f (k + 1) = true := by simp [allTo, h, hk]
theorem allTo_false {f : Nat -> Bool} {k n : Nat} (hk : k < n) (h : f k = false) : allTo f n = false := by
 cases hh : allTo f n with
 | false => rfl
 | true => rw [allTo_iff.1 hh k hk] at h; cases h
def okByte (b : UInt8) : Bool := !(decide (b.toNat < 32)) && !(decide (b.toNat = 127))
def labelB (s : List UInt8) : Bool := allTo (fun i => okByte (s.getD i 0)) s.length && ((Ru.points s).isSome && decide (1 <= s.length) && decide (s.length <= 32))
def smallB (b : UInt8) : Bool := decide (97 <= b.toNat) && decide (b.toNat <= 122)
def innerB (b : UInt8) : Bool := decide (b.toNat = 45) || decide (b.toNat = 95) || (decide (48 <= b.toNat) && decide (b.toNat <= 57))
def nameB (s : List UInt8) : Bool := allTo (fun i => smallB (s.getD i 0) || (!decide (i = 0) && innerB (s.getD i 0))) s.length && (decide (1 <= s.length) && decide (s.length <= 32))
end Go.Proofs.YthcabnfcgjnlnaaGreatDoor.Ok
namespace Go.Proofs.YthcabnfcgjnlnaaGreatDoor
open Go.RowKit
theorem getD_byte (s : ByteArray) (k : Nat) (h : k < s.size) : s.data.toList.getD k 0 = s[k] := by
 rw [List.getD, List.getElem?_eq_getElem (by rw [<- Lib.size_eq]; exact h)]
 rfl
set_option maxHeartbeats 1000000 in
theorem label10_any (s : ByteArray) (w : World) (hs : s.size <= 1099511627776) :
    Calls Tryz.prog 101 #[.string s] w fun e w' => e = .returned (.bool (Ok.labelB s.data.toList)) /\ Below w.heap.size w w' := by
  have HP := hI (points02_any s w hs)
  go_enter Tryz.func101, Tryz.ntmps101
  go_wp2
  go_loop [3] (fun v => ∃ k : Nat, k <= s.size /\ v = .int .i64 k /\ Hid (Ok.allTo (fun i => Ok.okByte (s.data.toList.getD i 0)) k = true)) (fun v => s.size - (intOf v).toNat)
  case atStart => exact ⟨0, Nat.zero_le _, rfl, rfl⟩
  case round =>
    obtain ⟨k, hk, rfl, HA⟩ := hrel
    by_cases hlt : k < s.size
    · have HG := hI (getD_byte s k hlt)
      by_cases h1 : (s[k]'hlt).toNat < 32
      · have HR : Hid (Ok.labelB s.data.toList = false) := by
          show _ = _
          unfold Ok.labelB
          rw [Ok.allTo_false (k := k) (by rw [<- Lib.size_eq]; exact hlt) (by rw [HG.out]; simp [Ok.okByte, h1])]
          rfl
        go_wp2
        go_ret
        exact ⟨ret_bool HR.out.symm, Below.refl _ _⟩
      · by_cases h2 : (s[k]'hlt).toNat = 127
        · have HR : Hid (Ok.labelB s.data.toList = false) := by
            show _ = _
            unfold Ok.labelB
            rw [Ok.allTo_false (k := k) (by rw [<- Lib.size_eq]; exact hlt) (by rw [HG.out]; simp [Ok.okByte, h2])]
            rfl
          have h3 : (((s[k]'hlt).toNat : Int) == 127) = true := beq_iff_eq.2 (by omega)
          have H2 := hI h2; clear h2
          go_wp2
          go_ret
          exact ⟨ret_bool HR.out.symm, Below.refl _ _⟩
        · have HN : Hid (Ok.allTo (fun i => Ok.okByte (s.data.toList.getD i 0)) (k + 1) = true) := Ok.allTo_next HA.out (by simp only [HG.out]; simp [Ok.okByte, h1, h2]; try omega)
          have h3 : (((s[k]'hlt).toNat : Int) == 127) = false := beq_eq_false_iff_ne.2 (by omega)
          clear h2
          go_wp2
          go_round
          case rel => exact ⟨k + 1, by omega, by go_num, HN⟩
          case measure => simp [intOf]; omega
    · obtain rfl : k = s.size := by omega
      have HLB : Hid (Ok.labelB s.data.toList = ((Ru.points s.data.toList).isSome && decide (1 <= s.size) && decide (s.size <= 32))) := by
        show _ = _
        unfold Ok.labelB
        rw [<- Lib.size_eq, HA.out]
        rfl
      obtain ⟨o, ho⟩ : ∃ o, Hid (Ru.points s.data.toList = o) := ⟨_, rfl⟩
      rw [ho.out] at HP HLB
      cases o with
      | none =>
        go_wp2_with fail
        refine HP.out.mono ?_
        rintro e w1 ⟨h1, _, hb⟩
        obtain rfl := h1 rfl
        clear h1
        go_wp2
        go_ret
        exact ⟨ret_bool (by rw [HLB.out]; rfl), hb⟩
      | some d =>
        by_cases g1 : 1 <= s.size
        · have g1' : (1 : Int) <= (s.size : Int) := by omega
          by_cases g2 : s.size <= 32
          · go_wp2_with fail
            refine HP.out.mono ?_
            rintro e w1 ⟨_, h1, hb⟩
            obtain ⟨v, rfl, hv⟩ := h1 d rfl
            have HV := hI hv; have HBB := hI hb
            clear h1 hv hb
            go_wp2
            go_ret
            exact ⟨ret_bool (by rw [HLB.out]; simp [g1, g2]; try omega), HBB.out⟩
          · have g2' : ¬ (s.size : Int) <= 32 := by omega
            go_wp2_with fail
            refine HP.out.mono ?_
            rintro e w1 ⟨_, h1, hb⟩
            obtain ⟨v, rfl, hv⟩ := h1 d rfl
            have HV := hI hv; have HBB := hI hb
            clear h1 hv hb
            go_wp2
            go_ret
            exact ⟨ret_bool (by rw [HLB.out]; simp [g2]; try omega), HBB.out⟩
        · have g1' : ¬ (1 : Int) <= (s.size : Int) := by omega
          go_wp2_with fail
          refine HP.out.mono ?_
          rintro e w1 ⟨_, h1, hb⟩
          obtain ⟨v, rfl, hv⟩ := h1 d rfl
          have HV := hI hv; have HBB := hI hb
          clear h1 hv hb
          go_wp2
          go_ret
          exact ⟨ret_bool (by rw [HLB.out]; simp; try omega), HBB.out⟩
end Go.Proofs.YthcabnfcgjnlnaaGreatDoor
namespace Go.Proofs.YthcabnfcgjnlnaaGreatDoor
open Go.RowKit
set_option maxHeartbeats 4000000 in
theorem name10_any (s : ByteArray) (w : World) (hs : s.size <= 9223372036854775807) :
    Calls Tryz.prog 106 #[.string s] w fun e w' => e = .returned (.bool (Ok.nameB s.data.toList)) /\ w = w' := by
  go_enter Tryz.func106, Tryz.ntmps106
  go_wp2
  go_loop [3, 4] (fun v _ => ∃ k : Nat, k <= s.size /\ v = .int .i64 k /\ Hid (Ok.allTo (fun i => Ok.smallB (s.data.toList.getD i 0) || (!decide (i = 0) && Ok.innerB (s.data.toList.getD i 0))) k = true)) (fun v _ => s.size - (intOf v).toNat)
  case atStart => exact ⟨0, Nat.zero_le _, rfl, rfl⟩
  case round =>
    obtain ⟨k, hk, rfl, HA⟩ := hrel
    by_cases hlt : k < s.size
    · have HG := hI (getD_byte s k hlt)
      obtain ⟨b, hb⟩ : ∃ b : Nat, Hid ((s[k]'hlt).toNat = b) := ⟨_, rfl⟩
      have hb256 : b < 256 := by rw [<- hb.out]; exact UInt8.toNat_lt _
      have zb : ((s[k]'hlt).toNat : Int) = (b : Int) := by rw [hb.out]
      have HFAIL : Hid ((Ok.smallB (s[k]'hlt) || (!decide (k = 0) && Ok.innerB (s[k]'hlt))) = false -> Ok.nameB s.data.toList = false) := fun h => by
        unfold Ok.nameB
        rw [Ok.allTo_false (k := k) (by rw [<- Lib.size_eq]; exact hlt) (by rw [HG.out]; exact h)]
        rfl
      have HOK : Hid ((Ok.smallB (s[k]'hlt) || (!decide (k = 0) && Ok.innerB (s[k]'hlt))) = true -> Ok.allTo (fun i => Ok.smallB (s.data.toList.getD i 0) || (!decide (i = 0) && Ok.innerB (s.data.toList.getD i 0))) (k + 1) = true) := fun h =>
        Ok.allTo_next HA.out (by simp only [HG.out]; exact h)
      clear HG HA
      unfold Ok.smallB Ok.innerB at HFAIL HOK
      rw [hb.out] at HFAIL HOK
      have ways : (97 <= b /\ b <= 122) ∨ (b < 97 /\ k ≠ 0 /\ b = 45) ∨ (b < 97 /\ k ≠ 0 /\ b = 95) ∨ (b < 97 /\ k ≠ 0 /\ b ≠ 45 /\ b ≠ 95 /\ 48 <= b /\ b <= 57) ∨
        ((b < 97 /\ k = 0) ∨ (122 < b /\ k = 0) ∨ (b < 97 /\ k ≠ 0 /\ b ≠ 45 /\ b ≠ 95 /\ b < 48) ∨ (b < 97 /\ k ≠ 0 /\ b ≠ 45 /\ b ≠ 95 /\ 57 < b) ∨ (122 < b /\ k ≠ 0)) := by omega
      rcases ways with ⟨g1, g2⟩ | ⟨g1, g2, g3⟩ | ⟨g1, g2, g3⟩ | ⟨g1, g2, g3, g4, g5, g6⟩ | ways
      · have HN := hI (HOK.out (by simp [g1, g2]))
        clear HFAIL HOK
        go_wp2
        go_round
        case rel => exact ⟨k + 1, by omega, by go_num, HN⟩
        case measure => simp [intOf]; omega
      · have HN := hI (HOK.out (by simp [g2, g3]))
        have e1 : ((k : Int) == 0) = false := beq_eq_false_iff_ne.2 (by omega)
        have e2 : ((b : Int) != 45) = false := by simp; omega
        have G3 := hI g3; clear g3
        clear HFAIL HOK g2
        go_wp2
        go_round
        case rel => exact ⟨k + 1, by omega, by go_num, HN⟩
        case measure => simp [intOf]; omega
      · have HN := hI (HOK.out (by simp [g2, g3]))
        have e1 : ((k : Int) == 0) = false := beq_eq_false_iff_ne.2 (by omega)
        have e2 : ((b : Int) != 45) = true := by rw [bne_iff_ne]; omega
        have e3 : ((b : Int) != 95) = false := by simp; omega
        have G3 := hI g3; clear g3
        clear HFAIL HOK g2
        go_wp2
        go_round
        case rel => exact ⟨k + 1, by omega, by go_num, HN⟩
        case measure => simp [intOf]; omega
      · have HN := hI (HOK.out (by simp [g2, g5, g6]))
        have e1 : ((k : Int) == 0) = false := beq_eq_false_iff_ne.2 (by omega)
        have e2 : ((b : Int) != 45) = true := by rw [bne_iff_ne]; omega
        have e3 : ((b : Int) != 95) = true := by rw [bne_iff_ne]; omega
        clear HFAIL HOK g2 g3 g4
        go_wp2
        go_round
        case rel => exact ⟨k + 1, by omega, by go_num, HN⟩
        case measure => simp [intOf]; omega
      · have HN : Hid (Ok.nameB s.data.toList = false) := HFAIL.out (by
          rcases ways with ⟨g1, g2⟩ | ⟨g1, g2⟩ | ⟨g1, g2, g3, g4, g5⟩ | ⟨g1, g2, g3, g4, g5⟩ | ⟨g1, g2⟩ <;> simp <;> omega)
        clear HFAIL HOK
        rcases ways with ⟨g1, g2⟩ | ⟨g1, g2⟩ | ⟨g1, g2, g3, g4, g5⟩ | ⟨g1, g2, g3, g4, g5⟩ | ⟨g1, g2⟩
        · subst g2
          go_wp2
          go_ret
          exact ⟨ret_bool HN.out.symm, rfl⟩
        · subst g2
          have e4 : decide ((b : Int) <= 122) = false := decide_eq_false (by omega)
          have e5 : decide ((97 : Int) <= (b : Int)) = true := decide_eq_true (by omega)
          go_wp2
          go_ret
          exact ⟨ret_bool HN.out.symm, rfl⟩
        · have e1 : ((k : Int) == 0) = false := beq_eq_false_iff_ne.2 (by omega)
          have e2 : ((b : Int) != 45) = true := by rw [bne_iff_ne]; omega
          have e3 : ((b : Int) != 95) = true := by rw [bne_iff_ne]; omega
          clear g2 g3 g4
          go_wp2
          go_ret
          exact ⟨ret_bool HN.out.symm, rfl⟩
        · have e1 : ((k : Int) == 0) = false := beq_eq_false_iff_ne.2 (by omega)
          have e2 : ((b : Int) != 45) = true := by rw [bne_iff_ne]; omega
          have e3 : ((b : Int) != 95) = true := by rw [bne_iff_ne]; omega
          clear g2 g3 g4
          go_wp2
          go_ret
          exact ⟨ret_bool HN.out.symm, rfl⟩
        · have e1 : ((k : Int) == 0) = false := beq_eq_false_iff_ne.2 (by omega)
          have e2 : ((b : Int) != 45) = true := by rw [bne_iff_ne]; omega
          have e3 : ((b : Int) != 95) = true := by rw [bne_iff_ne]; omega
          have e4 : decide ((b : Int) <= 122) = false := decide_eq_false (by omega)
          have e5 : decide ((97 : Int) <= (b : Int)) = true := decide_eq_true (by omega)
          have e6 : decide ((b : Int) < 48) = false := decide_eq_false (by omega)
          have e7 : decide ((57 : Int) < (b : Int)) = true := decide_eq_true (by omega)
          clear g2
          go_wp2
          go_ret
          exact ⟨ret_bool HN.out.symm, rfl⟩
    · obtain rfl : k = s.size := by omega
      have HLB : Hid (Ok.nameB s.data.toList = (decide (1 <= s.size) && decide (s.size <= 32))) := by
        show _ = _
        unfold Ok.nameB
        rw [<- Lib.size_eq, HA.out]
        rfl
      by_cases g1 : 1 <= s.size
      · have g1' : (1 : Int) <= (s.size : Int) := by omega
        go_wp2
        go_ret
        exact ⟨ret_bool (by rw [HLB.out]; simp [g1]; try omega), rfl⟩
      · have g1' : ¬ (1 : Int) <= (s.size : Int) := by omega
        go_wp2
        go_ret
        exact ⟨ret_bool (by rw [HLB.out]; simp; try omega), rfl⟩
end Go.Proofs.YthcabnfcgjnlnaaGreatDoor
namespace Go.Proofs.YthcabnfcgjnlnaaGreatDoor
section
open Go.RowKit Ru Lay
attribute [local go_sem ↓] Go.wp_at_zero Go.wp_at_succ
def over11 (r : Int) : Int := if r = 2 then 1 else if r = 5 then 1 else if r = 3 then 2 else if r = 4 then 3 else -1
def rightS (a b : Int) : Bool := decide (0 <= a) && (decide (a < b) && decide (b <= 86400000))
set_option maxHeartbeats 400000 in
theorem timed_any (k : Int) (w : World) : Calls Tryz.prog 107 #[.int .i64 k] w fun e w' => e = .returned (.bool (timedK k)) /\ w = w' := by
 by_cases h0 : k = 0
 ·subst h0
  go_enter Tryz.func107, Tryz.ntmps107
  go_wp2
  go_ret
  exact ⟨rfl, rfl⟩
 ·have b0 : (k == 0) = false := beq_eq_false_iff_ne.2 h0
  by_cases h1 : k = 1
  ·subst h1
   go_enter Tryz.func107, Tryz.ntmps107
   go_wp2
   go_ret
   exact ⟨rfl, rfl⟩
  ·have b1 : (k == 1) = false := beq_eq_false_iff_ne.2 h1
   by_cases h2 : k = 2
   ·subst h2
    go_enter Tryz.func107, Tryz.ntmps107
    go_wp2
    go_ret
    exact ⟨rfl, rfl⟩
   ·have b2 : (k == 2) = false := beq_eq_false_iff_ne.2 h2
    go_enter Tryz.func107, Tryz.ntmps107
    go_wp2
    go_ret
    exact ⟨ret_bool (by unfold timedK; simp [h0, h1, h2]), rfl⟩
set_option maxHeartbeats 400000 in
theorem aligned_any (k : Int) (w : World) : Calls Tryz.prog 80 #[.int .i64 k] w fun e w' => e = .returned (.bool (timedK k)) /\ w = w' := by
 by_cases h0 : k = 0
 ·subst h0
  go_enter Tryz.func80, Tryz.ntmps80
  go_wp2
  go_ret
  exact ⟨rfl, rfl⟩
 ·have b0 : (k == 0) = false := beq_eq_false_iff_ne.2 h0
  by_cases h1 : k = 1
  ·subst h1
   go_enter Tryz.func80, Tryz.ntmps80
   go_wp2
   go_ret
   exact ⟨rfl, rfl⟩
  ·have b1 : (k == 1) = false := beq_eq_false_iff_ne.2 h1
   by_cases h2 : k = 2
   ·subst h2
    go_enter Tryz.func80, Tryz.ntmps80
    go_wp2
    go_ret
    exact ⟨rfl, rfl⟩
   ·have b2 : (k == 2) = false := beq_eq_false_iff_ne.2 h2
    go_enter Tryz.func80, Tryz.ntmps80
    go_wp2
    go_ret
    exact ⟨ret_bool (by unfold timedK; simp [h0, h1, h2]), rfl⟩
set_option maxHeartbeats 400000 in
theorem kind11_any (r : Int) (w : World) : Calls Tryz.prog 108 #[.int .i64 r] w fun e w' => e = .returned (.int .i64 (kind11 r)) /\ w = w' := by
 by_cases h1 : r = 1
 ·subst h1
  go_enter Tryz.func108, Tryz.ntmps108
  go_wp2
  go_ret
  exact ⟨rfl, rfl⟩
 ·have b1 : (r == 1) = false := beq_eq_false_iff_ne.2 h1
  by_cases h3 : r = 3
  ·subst h3
   go_enter Tryz.func108, Tryz.ntmps108
   go_wp2
   go_ret
   exact ⟨rfl, rfl⟩
  ·have b3 : (r == 3) = false := beq_eq_false_iff_ne.2 h3
   by_cases h4 : r = 4
   ·subst h4
    go_enter Tryz.func108, Tryz.ntmps108
    go_wp2
    go_ret
    exact ⟨rfl, rfl⟩
   ·have b4 : (r == 4) = false := beq_eq_false_iff_ne.2 h4
    by_cases h5 : r = 5
    ·subst h5
     go_enter Tryz.func108, Tryz.ntmps108
     go_wp2
     go_ret
     exact ⟨rfl, rfl⟩
    ·have b5 : (r == 5) = false := beq_eq_false_iff_ne.2 h5
     have HR : Hid (kind11 r = -1) := by show _ = _; unfold kind11; simp [h1, h3, h4, h5]
     go_enter Tryz.func108, Tryz.ntmps108
     go_wp2
     go_ret
     exact ⟨by rw [HR.out]; rfl, rfl⟩
set_option maxHeartbeats 400000 in
theorem over11_any (r : Int) (w : World) : Calls Tryz.prog 109 #[.int .i64 r] w fun e w' => e = .returned (.int .i64 (over11 r)) /\ w = w' := by
 by_cases h2 : r = 2
 ·subst h2
  go_enter Tryz.func109, Tryz.ntmps109
  go_wp2
  go_ret
  exact ⟨rfl, rfl⟩
 ·have b2 : (r == 2) = false := beq_eq_false_iff_ne.2 h2
  by_cases h5 : r = 5
  ·subst h5
   go_enter Tryz.func109, Tryz.ntmps109
   go_wp2
   go_ret
   exact ⟨rfl, rfl⟩
  ·have b5 : (r == 5) = false := beq_eq_false_iff_ne.2 h5
   by_cases h3 : r = 3
   ·subst h3
    go_enter Tryz.func109, Tryz.ntmps109
    go_wp2
    go_ret
    exact ⟨rfl, rfl⟩
   ·have b3 : (r == 3) = false := beq_eq_false_iff_ne.2 h3
    by_cases h4 : r = 4
    ·subst h4
     go_enter Tryz.func109, Tryz.ntmps109
     go_wp2
     go_ret
     exact ⟨rfl, rfl⟩
    ·have b4 : (r == 4) = false := beq_eq_false_iff_ne.2 h4
     have HR : Hid (over11 r = -1) := by show _ = _; unfold over11; simp [h2, h3, h4, h5]
     go_enter Tryz.func109, Tryz.ntmps109
     go_wp2
     go_ret
     exact ⟨by rw [HR.out]; rfl, rfl⟩
set_option maxHeartbeats 400000 in
theorem right09_any (a b : Int) (w : World) : Calls Tryz.prog 111 #[.agg #[.int .i64 a, .int .i64 b]] w fun e w' => e = .returned (.bool (rightS a b)) /\ Below w.heap.size w w' := by
 have HB : Hid (Below w.heap.size w (w.alloc (.cells #[.int .i64 a, .int .i64 b] 56))) := (Below.refl _ w).alloc (Nat.le_refl _) _
 by_cases h0 : 0 <= a
 ·have d0 : decide (0 <= a) = true := decide_eq_true h0
  by_cases h1 : a < b
  ·have d1 : decide (a < b) = true := decide_eq_true h1
   have HR : Hid (rightS a b = decide (b <= 86400000)) := by show _ = _; unfold rightS; rw [d0, d1]; rfl
   go_enter Tryz.func111, Tryz.ntmps111
   go_wp2
   go_ret
   exact ⟨ret_bool HR.out.symm, HB.out⟩
  ·have d1 : decide (a < b) = false := decide_eq_false h1
   have HR : Hid (rightS a b = false) := by show _ = _; unfold rightS; rw [d0, d1]; rfl
   go_enter Tryz.func111, Tryz.ntmps111
   go_wp2
   go_ret
   exact ⟨ret_bool HR.out.symm, HB.out⟩
 ·have d0 : decide (0 <= a) = false := decide_eq_false h0
  have HR : Hid (rightS a b = false) := by show _ = _; unfold rightS; rw [d0]; rfl
  go_enter Tryz.func111, Tryz.ntmps111
  go_wp2
  go_ret
  exact ⟨ret_bool HR.out.symm, HB.out⟩
end
end Go.Proofs.YthcabnfcgjnlnaaGreatDoor
