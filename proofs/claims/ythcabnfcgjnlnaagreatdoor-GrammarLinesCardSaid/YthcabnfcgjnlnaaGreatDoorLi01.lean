import Derived.Test.YthcabnfcgjnlnaaGreatDoorB03
import Derived.Deep.QuietTactic
import Derived.BigQuiet
import Derived.Laws.IdiomStrings
import Derived.Outline
import Derived.Deep.RegionWith
import Derived.Deep.DrawnRows
set_option linter.unusedVariables false
set_option linter.unusedSimpArgs false
namespace Go.Proofs.YthcabnfcgjnlnaaGreatDoor.Ru
theorem encI_range {p : Int} (h0 : 0 <= p) (h1 : p <= 1114111) : ∀ v ∈ encI p, 0 <= v /\ v < 256 := by
 intro v hv;unfold encI at hv;split at hv
 ·simp at hv; omega
 ·split at hv
  ·simp at hv; omega
  ·split at hv
   ·simp at hv; omega
   ·simp at hv; omega
theorem lead_lt {b : Nat} (h : b < 256) : (lead b).1 < 256 := by
 unfold lead; split
 ·simp; omega
 ·split
  ·simp; omega
  ·split
   ·simp; omega
   ·simp; omega
theorem cont_snoc (p : Nat) (l : List UInt8) (b : UInt8) : cont p (l ++ [b]) = cont p l * 64 + b.toNat % 64 := by simp [cont]
theorem cont_lt (p : Nat) : ∀ (l : List UInt8), cont p l < (p + 1) * 64 ^ l.length := by
 intro l;induction l generalizing p with
 | nil => simp [cont]
 | cons b t ih =>
  have := ih (p * 64 + b.toNat % 64);show cont (p * 64 + b.toNat % 64) t < _;have h2 : b.toNat % 64 < 64 := Nat.mod_lt _ (by omega);refine Nat.lt_of_lt_of_le this ?_;rw [List.length_cons, Nat.pow_succ, Nat.mul_comm (64 ^ t.length) 64, <- Nat.mul_assoc];exact Nat.mul_le_mul_right _ (by omega)
end Go.Proofs.YthcabnfcgjnlnaaGreatDoor.Ru
namespace Go.Proofs.YthcabnfcgjnlnaaGreatDoor
section
open Go.RowKit
theorem same_quiet {P : Program} {f : FuncId} {args : Array Value} {w : World} {p : BW w} {v : Value}
  (h : Calls P f args p.at_ fun e w' => e = .returned v /\ p.at_ = w') : Calls P f args p.at_ fun e w'' => e = .returned v /\ ∃ q : BW w, w'' = q.at_ :=
 h.mono fun _ _ ⟨he, hb⟩ => ⟨he, p, hb.symm⟩
end
end Go.Proofs.YthcabnfcgjnlnaaGreatDoor
namespace Go.Proofs.YthcabnfcgjnlnaaGreatDoor
open Go.RowKit
namespace Ru
end Ru
set_option maxHeartbeats 400000 in
theorem refMark_any (p : Int) (w : World) : Calls Tryz.prog 145 #[.int .i64 p] w fun e w' => e = .returned (.bool (Ru.markB p)) /\ w = w' := by
 by_cases h1 : 768 <= p
 ·have d1 : decide (768 <= p) = true := decide_eq_true h1;by_cases h2 : p <= 879
  ·have d2 : decide (p <= 879) = true := decide_eq_true h2;go_enter Tryz.func145, Tryz.ntmps145
   go_wp2;go_ret;exact ⟨ret_bool (by simp [Ru.markB, h1, h2]), rfl⟩
  ·have d2 : decide (p <= 879) = false := decide_eq_false h2;go_enter Tryz.func145, Tryz.ntmps145
   go_wp2;go_ret;exact ⟨ret_bool (by simp [Ru.markB, h1, h2]), rfl⟩
 ·have d1 : decide (768 <= p) = false := decide_eq_false h1;go_enter Tryz.func145, Tryz.ntmps145
  go_wp2;go_ret;exact ⟨ret_bool (by unfold Ru.markB; rw [d1]; rfl), rfl⟩
end Go.Proofs.YthcabnfcgjnlnaaGreatDoor
namespace Go.Proofs.YthcabnfcgjnlnaaGreatDoor.Ru
open Go.Proofs.YthcabnfcgjnlnaaGreatDoor.Col Go.Proofs.YthcabnfcgjnlnaaGreatDoor.Srt
theorem encS_one (p : Nat) : encS [p] = encL (p : Int) := by unfold encS; simp
end Go.Proofs.YthcabnfcgjnlnaaGreatDoor.Ru
namespace Go.Proofs.YthcabnfcgjnlnaaGreatDoor
section
open Go.RowKit
set_option maxHeartbeats 400000 in
theorem scalar_any (p : Int) (w : World) : Calls Tryz.prog 151 #[.int .i64 p] w fun e w' => e = .returned (.bool (Ru.scalarB p)) /\ w = w' := by
 by_cases h1 : 0 <= p
 ·by_cases h2 : p <= 1114111
  ·by_cases h3 : p < 55296
   ·go_enter Tryz.func151, Tryz.ntmps151
    go_wp2;go_ret;exact ⟨ret_bool (by simp [Ru.scalarB, h1, h2, h3]), rfl⟩
   ·by_cases h4 : 57343 < p
    ·go_enter Tryz.func151, Tryz.ntmps151
     go_wp2;go_ret;exact ⟨ret_bool (by simp [Ru.scalarB, h1, h2, h3, h4]), rfl⟩
    ·go_enter Tryz.func151, Tryz.ntmps151
     go_wp2;go_ret;exact ⟨ret_bool (by simp [Ru.scalarB, h1, h2, h3, h4]), rfl⟩
  ·go_enter Tryz.func151, Tryz.ntmps151
   go_wp2;go_ret;exact ⟨ret_bool (by simp [Ru.scalarB]; omega), rfl⟩
 ·go_enter Tryz.func151, Tryz.ntmps151
  go_wp2;go_ret;exact ⟨ret_bool (by simp [Ru.scalarB]; omega), rfl⟩
theorem conv_bytes (w : World) (vs : List Int) (hv : ∀ v ∈ vs, 0 <= v /\ v < 256) :
  (convert 94 9 (.slice (some ⟨w.heap.size, 0, none⟩) vs.length vs.length)).run Tryz.prog (w.alloc (.cells (vs.map (.int .u8)).toArray 5)) =
   .ok (.string ⟨(vs.map fun v => UInt8.ofNat v.toNat).toArray⟩) (w.alloc (.cells (vs.map (.int .u8)).toArray 5)) := by
 have := run_convert_bytes_back (P := Tryz.prog) (w.alloc (.cells (vs.map (.int .u8)).toArray 5)) 94 9 5 ⟨w.heap.size, 0, none⟩ vs.length (vs.map fun v => UInt8.ofNat v.toNat)
  Tryz.underlying94 Tryz.underlying5 Tryz.underlying9 (fun j hj => by
   have e1 : (⟨w.heap.size, 0, none⟩ : Addr).add j = ⟨w.heap.size, j, none⟩ := by
    unfold Addr.add;split
    ·rename_i h; simp [h]
    ·simp
   rw [e1, World.cell?_alloc_at _ _ _ _ rfl];simp at hj |-
   have := hv vs[j] (List.getElem_mem _);rw [show max vs[j] 0 % 256 = vs[j] by omega];exact List.getElem?_eq_getElem hj)
 simpa using this
set_option maxRecDepth 1000000 in
set_option maxHeartbeats 800000 in
theorem encoded_any (p : Nat) (w : World) (h : p <= 1114111) :
  Calls Tryz.prog 146 #[.int .i64 p] w fun e w' => e = .returned (.string (strL (Ru.encL p))) /\ Below w.heap.size w w' := by
 have hr := Ru.encI_range (p := p) (by omega) (by omega);by_cases h1 : p < 128
 ·have e : Ru.encI p = [(p : Int)] := by unfold Ru.encI; rw [if_pos (by omega)]
  rw [e] at hr;have hcv := conv_bytes w _ hr;have E := hI e; clear e hr
  simp only [List.map_cons, List.map_nil, List.length_cons, List.length_nil, Nat.zero_add] at hcv;go_enter Tryz.func146, Tryz.ntmps146
  go_wp2;go_ret;exact ⟨by unfold strL Ru.encL; rw [E.out]; rfl, below_new _ _⟩
 ·by_cases h2 : p < 2048
  ·have e : Ru.encI p = [192 + (p : Int) / 64, 128 + (p : Int) % 64] := by unfold Ru.encI; rw [if_neg (by omega), if_pos (by omega)]
   rw [e] at hr;have hcv := conv_bytes w _ hr;have E := hI e; clear e hr
   simp only [List.map_cons, List.map_nil, List.length_cons, List.length_nil, Nat.zero_add, Nat.reduceAdd] at hcv;go_enter Tryz.func146, Tryz.ntmps146
   go_wp2;go_ret;exact ⟨by unfold strL Ru.encL; rw [E.out]; rfl, below_new _ _⟩
  ·by_cases h3 : p < 65536
   ·have e : Ru.encI p = [224 + (p : Int) / 4096, 128 + (p : Int) / 64 % 64, 128 + (p : Int) % 64] := by unfold Ru.encI; rw [if_neg (by omega), if_neg (by omega), if_pos (by omega)]
    rw [e] at hr;have hcv := conv_bytes w _ hr;have E := hI e; clear e hr
    simp only [List.map_cons, List.map_nil, List.length_cons, List.length_nil, Nat.zero_add, Nat.reduceAdd] at hcv;go_enter Tryz.func146, Tryz.ntmps146
    go_wp2;go_ret;exact ⟨by unfold strL Ru.encL; rw [E.out]; rfl, below_new _ _⟩
   ·have e : Ru.encI p = [240 + (p : Int) / 262144, 128 + (p : Int) / 4096 % 64, 128 + (p : Int) / 64 % 64, 128 + (p : Int) % 64] := by unfold Ru.encI; rw [if_neg (by omega), if_neg (by omega), if_neg (by omega)]
    rw [e] at hr;have hcv := conv_bytes w _ hr;have E := hI e; clear e hr
    simp only [List.map_cons, List.map_nil, List.length_cons, List.length_nil, Nat.zero_add, Nat.reduceAdd] at hcv;go_enter Tryz.func146, Tryz.ntmps146
    go_wp2;go_ret;exact ⟨by unfold strL Ru.encL; rw [E.out]; rfl, below_new _ _⟩
theorem drop_cons_at (s : ByteArray) (at_ : Nat) (h : at_ < s.size) : s.data.toList.drop at_ = s[at_] :: s.data.toList.drop (at_ + 1) := by
 rw [List.drop_eq_getElem_cons (by rw [<- Lib.size_eq]; exact h)];rfl
theorem extract_mid (s : ByteArray) (a n : Nat) : (s.extract a (a + n)).data.toList = (s.data.toList.drop a).take n := by
 rw [Lib.extract_data];congr 1
 omega
theorem strL_list (l : List UInt8) : (strL l).toList = l := by rw [Lib.toList_data]; simp [strL]
theorem cont_bound {p0 : Nat} {l : List UInt8} (hp : p0 < 256) (hl : l.length <= 3) : Ru.cont p0 l < 67371008 := by
 refine Nat.lt_of_lt_of_le (Ru.cont_lt p0 l) ?_;have h1 : 64 ^ l.length <= 64 ^ 3 := Nat.pow_le_pow_right (by omega) hl;have h2 : (p0 + 1) * 64 ^ l.length <= 257 * 64 ^ 3 := Nat.mul_le_mul (by omega) h1;exact Nat.le_trans h2 (by decide)
theorem cont_next (s : ByteArray) (p0 at_ k : Nat) (hk : 1 <= k) (h : at_ + k < s.size) :
  Ru.cont p0 ((s.data.toList.drop (at_ + 1)).take (k + 1 - 1)) = Ru.cont p0 ((s.data.toList.drop (at_ + 1)).take (k - 1)) * 64 + (s[at_ + k]'h).toNat % 64 := by
 have e : (s.data.toList.drop (at_ + 1)).take (k + 1 - 1) = (s.data.toList.drop (at_ + 1)).take (k - 1) ++ [s[at_ + k]'h] := by
  rw [show k + 1 - 1 = (k - 1) + 1 by omega, List.take_add_one];congr 1
  rw [List.getElem?_drop, show at_ + 1 + (k - 1) = at_ + k by omega, List.getElem?_eq_getElem (by rw [<- Lib.size_eq]; exact h)];rfl
 rw [e, Ru.cont_snoc]
theorem lead_cases (b : Nat) : ∃ p0 n0, Hid (Ru.lead b = (p0, n0)) /\ ((240 <= b /\ p0 + 240 = b /\ n0 = 4) ∨ (b < 240 /\ 224 <= b /\ p0 + 224 = b /\ n0 = 3) ∨ (b < 224 /\ 192 <= b /\ p0 + 192 = b /\ n0 = 2) ∨ (b < 192 /\ p0 = b /\ n0 = 1)) := by
 by_cases h1 : 240 <= b
 ·exact ⟨b - 240, 4, (show Ru.lead b = _ by unfold Ru.lead; rw [if_pos h1]), .inl ⟨h1, by omega, rfl⟩⟩
 ·by_cases h2 : 224 <= b
  ·exact ⟨b - 224, 3, (show Ru.lead b = _ by unfold Ru.lead; rw [if_neg h1, if_pos h2]), .inr (.inl ⟨by omega, h2, by omega, rfl⟩)⟩
  ·by_cases h3 : 192 <= b
   ·exact ⟨b - 192, 2, (show Ru.lead b = _ by unfold Ru.lead; rw [if_neg h1, if_neg h2, if_pos h3]), .inr (.inr (.inl ⟨by omega, h3, by omega, rfl⟩))⟩
   ·exact ⟨b, 1, (show Ru.lead b = _ by unfold Ru.lead; rw [if_neg h1, if_neg h2, if_neg h3]), .inr (.inr (.inr ⟨by omega, rfl, rfl⟩))⟩
def firstV (o : Option (Nat × Nat)) : Value :=
 match o with
 | none => .tuple #[.int .i64 (-1), .int .i64 0]
 | some (p, n) => .tuple #[.int .i64 p, .int .i64 n]
set_option maxRecDepth 1000000 in
set_option maxHeartbeats 4000000 in
theorem first02_any (s : ByteArray) (at_ : Nat) (w : World) (hr : at_ < s.size) (hs : s.size <= 1099511627776) :
    Calls Tryz.prog 130 #[.string s, .int .i64 at_] w fun e w' => e = .returned (firstV (Ru.firstL (s.data.toList.drop at_))) /\ Below w.heap.size w w' := by
  have hb0 : (s[at_]'hr).toNat < 256 := UInt8.toNat_lt _
  obtain ⟨p0, n0, HL, hcase⟩ : ∃ p0 n0, Hid (Ru.lead (s[at_]'hr).toNat = (p0, n0)) /\ ((240 <= (s[at_]'hr).toNat /\ p0 + 240 = (s[at_]'hr).toNat /\ n0 = 4) ∨ ((s[at_]'hr).toNat < 240 /\ 224 <= (s[at_]'hr).toNat /\ p0 + 224 = (s[at_]'hr).toNat /\ n0 = 3) ∨
      ((s[at_]'hr).toNat < 224 /\ 192 <= (s[at_]'hr).toNat /\ p0 + 192 = (s[at_]'hr).toNat /\ n0 = 2) ∨ ((s[at_]'hr).toNat < 192 /\ p0 = (s[at_]'hr).toNat /\ n0 = 1)) := by
    exact lead_cases _
  have HD := hI (drop_cons_at s at_ hr);have hp0 : p0 < 256 := by have := Ru.lead_lt hb0; rw [HL.out] at this; exact this
  have HF : Hid (∀ p, p = Ru.cont p0 ((s.data.toList.drop (at_ + 1)).take (n0 - 1)) -> Ru.firstL (s.data.toList.drop at_) = if n0 <= (s.data.toList.drop (at_ + 1)).length + 1 /\ Ru.scalarB p = true /\ Ru.encL p = (s.data.toList.drop at_).take n0 then some (p, n0) else none) := fun p hp => by
    rw [HD.out];simp only [Ru.firstL, HL.out];rw [<- hp]
  have HLEN : Hid ((s.data.toList.drop (at_ + 1)).length + 1 = s.size - at_) := by
    show _ = _;rw [List.length_drop, <- Lib.size_eq];omega
  clear HL;rcases hcase with ⟨g1, g2, rfl⟩ | ⟨g0, g1, g2, rfl⟩ | ⟨g0, g1, g2, rfl⟩ | ⟨g0, g2, rfl⟩
  · by_cases hfit : at_ + 4 <= s.size
    · have hfz : ¬ (s.size : Int) < (at_ : Int) + 4 := by omega
      go_enter Tryz.func130, Tryz.ntmps130
      go_wp2_with fail
      go_loop [6, 8] (fun vp vi => ∃ (k p : Nat), 1 <= k /\ k <= 4 /\ vi = .int .i64 k /\ vp = .int .i64 p /\ Hid (p = Ru.cont p0 ((s.data.toList.drop (at_ + 1)).take (k - 1)))) (fun _ vi => 4 - (intOf vi).toNat)
      case atStart => exact ⟨1, p0, by omega, by omega, rfl, by first | rfl | (congr 1; omega), rfl⟩
      case round =>
        obtain ⟨k, p, hk1, hk2, rfl, rfl, HP⟩ := hrel;have hpb : p < 67371008 := by rw [HP.out]; exact cont_bound hp0 (by simp; omega)
        by_cases hlt : k < 4
        · have hltz : (k : Int) < 4 := by omega
          have hix : at_ + k < s.size := by omega
          have hbk : (s[at_ + k]'hix).toNat < 256 := UInt8.toNat_lt _
          have HN : Hid (p * 64 + (s[at_ + k]'hix).toNat % 64 = Ru.cont p0 ((s.data.toList.drop (at_ + 1)).take (k + 1 - 1))) := by
            show _ = _;have := cont_next s p0 at_ k hk1 hix;rw [this, <- HP.out]
          go_wp2;go_round
          case rel => exact ⟨k + 1, p * 64 + (s[at_ + k]'hix).toNat % 64, by omega, by omega, by go_num, by first | rfl | (congr 1; omega), HN⟩
          case measure => simp [intOf]; omega
        · have hltz : ¬ (k : Int) < 4 := by omega
          obtain rfl : k = 4 := by omega
          have HFP := hI (HF.out p HP.out);have hsc := fun W => (scalar_any (p : Int) W).mono (R' := fun e w' => e = .returned (.bool (Ru.scalarB p)) /\ W = w') (fun _ _ h => h)
          obtain ⟨sb, hsb⟩ : ∃ sb, Hid (Ru.scalarB p = sb) := ⟨_, rfl⟩;rw [hsb.out] at hsc;have HSC := hI hsc; clear hsc
          cases sb with
          | false =>
            have HR : Hid (Ru.firstL (s.data.toList.drop at_) = none) := by
              show _ = _;rw [HFP.out, if_neg (fun h => by rw [hsb.out] at h; cases h.2.1)]
            go_wp2_with fail
            refine wp_region_quiet_below (by kernel_rfl) (by kernel_rfl) ?_;repeat (go_big_quiet_step ((first | (go_at_call 151; exact same_quiet (HSC.out _)))))
            refine wpQuiet_nil ?_;intro w2 hw';have hb2 := hI (bw_below hw');clear hw';go_wp2;go_ret2;exact ⟨by rw [HR.out]; rfl, hb2.out⟩
          | true =>
            have hp1 : p <= 1114111 := by have := hsb.out; simp [Ru.scalarB] at this; omega
            have HEN : Hid (∀ W : World, Calls Tryz.prog 146 #[.int .i64 p] W fun e w' => e = .returned (.string (strL (Ru.encL p))) /\ Below W.heap.size W w') := fun W => encoded_any p W hp1
            have hx1 : (at_ : Int) <= (at_ : Int) + 4 := by omega
            have hx2 : (at_ : Int) + 4 <= (s.size : Int) := by omega
            by_cases heq : Ru.encL p = (s.data.toList.drop at_).take 4
            · have hbeq : ((strL (Ru.encL p)).toList == (s.extract at_ (at_ + 4)).toList) = true := by
                rw [strL_list, Lib.toList_data, extract_mid, heq];exact beq_self_eq_true _
              have HR : Hid (Ru.firstL (s.data.toList.drop at_) = some (p, 4)) := by
                show _ = _;rw [HFP.out, if_pos ⟨by rw [HLEN.out]; omega, hsb.out, heq⟩]
              clear heq;go_wp2_with fail
              refine wp_region_quiet_below (by kernel_rfl) (by kernel_rfl) ?_;repeat (go_big_quiet_step ((first | (go_at_call 151; exact same_quiet (HSC.out _)) | (go_at_call 146; exact below_quiet (HEN.out _)))))
              refine wpQuiet_nil ?_;intro w2 hw';have hb2 := hI (bw_below hw');clear hw';go_wp2;go_ret2;exact ⟨by rw [HR.out]; rfl, hb2.out⟩
            · have hbeq : ((strL (Ru.encL p)).toList == (s.extract at_ (at_ + 4)).toList) = false := by
                rw [strL_list, Lib.toList_data, extract_mid];exact beq_eq_false_iff_ne.2 heq
              have HR : Hid (Ru.firstL (s.data.toList.drop at_) = none) := by
                show _ = _;rw [HFP.out, if_neg (fun h => heq h.2.2)]
              clear heq;go_wp2_with fail
              refine wp_region_quiet_below (by kernel_rfl) (by kernel_rfl) ?_;repeat (go_big_quiet_step ((first | (go_at_call 151; exact same_quiet (HSC.out _)) | (go_at_call 146; exact below_quiet (HEN.out _)))))
              refine wpQuiet_nil ?_;intro w2 hw';have hb2 := hI (bw_below hw');clear hw';go_wp2;go_ret2;exact ⟨by rw [HR.out]; rfl, hb2.out⟩
    · have hfz : (s.size : Int) < (at_ : Int) + 4 := by omega
      have HR : Hid (Ru.firstL (s.data.toList.drop at_) = none) := by
        show _ = _;rw [HF.out _ rfl, if_neg (fun h => by rw [HLEN.out] at h; omega)]
      go_enter Tryz.func130, Tryz.ntmps130
      go_wp2;go_ret2;exact ⟨by rw [HR.out]; rfl, Below.refl _ _⟩
  · by_cases hfit : at_ + 3 <= s.size
    · have hfz : ¬ (s.size : Int) < (at_ : Int) + 3 := by omega
      go_enter Tryz.func130, Tryz.ntmps130
      go_wp2_with fail
      go_loop [6, 8] (fun vp vi => ∃ (k p : Nat), 1 <= k /\ k <= 3 /\ vi = .int .i64 k /\ vp = .int .i64 p /\ Hid (p = Ru.cont p0 ((s.data.toList.drop (at_ + 1)).take (k - 1)))) (fun _ vi => 3 - (intOf vi).toNat)
      case atStart => exact ⟨1, p0, by omega, by omega, rfl, by first | rfl | (congr 1; omega), rfl⟩
      case round =>
        obtain ⟨k, p, hk1, hk2, rfl, rfl, HP⟩ := hrel;have hpb : p < 67371008 := by rw [HP.out]; exact cont_bound hp0 (by simp; omega)
        by_cases hlt : k < 3
        · have hltz : (k : Int) < 3 := by omega
          have hix : at_ + k < s.size := by omega
          have hbk : (s[at_ + k]'hix).toNat < 256 := UInt8.toNat_lt _
          have HN : Hid (p * 64 + (s[at_ + k]'hix).toNat % 64 = Ru.cont p0 ((s.data.toList.drop (at_ + 1)).take (k + 1 - 1))) := by
            show _ = _;have := cont_next s p0 at_ k hk1 hix;rw [this, <- HP.out]
          go_wp2;go_round
          case rel => exact ⟨k + 1, p * 64 + (s[at_ + k]'hix).toNat % 64, by omega, by omega, by go_num, by first | rfl | (congr 1; omega), HN⟩
          case measure => simp [intOf]; omega
        · have hltz : ¬ (k : Int) < 3 := by omega
          obtain rfl : k = 3 := by omega
          have HFP := hI (HF.out p HP.out);have hsc := fun W => (scalar_any (p : Int) W).mono (R' := fun e w' => e = .returned (.bool (Ru.scalarB p)) /\ W = w') (fun _ _ h => h)
          obtain ⟨sb, hsb⟩ : ∃ sb, Hid (Ru.scalarB p = sb) := ⟨_, rfl⟩;rw [hsb.out] at hsc;have HSC := hI hsc; clear hsc
          cases sb with
          | false =>
            have HR : Hid (Ru.firstL (s.data.toList.drop at_) = none) := by
              show _ = _;rw [HFP.out, if_neg (fun h => by rw [hsb.out] at h; cases h.2.1)]
            go_wp2_with fail
            refine wp_region_quiet_below (by kernel_rfl) (by kernel_rfl) ?_;repeat (go_big_quiet_step ((first | (go_at_call 151; exact same_quiet (HSC.out _)))))
            refine wpQuiet_nil ?_;intro w2 hw';have hb2 := hI (bw_below hw');clear hw';go_wp2;go_ret2;exact ⟨by rw [HR.out]; rfl, hb2.out⟩
          | true =>
            have hp1 : p <= 1114111 := by have := hsb.out; simp [Ru.scalarB] at this; omega
            have HEN : Hid (∀ W : World, Calls Tryz.prog 146 #[.int .i64 p] W fun e w' => e = .returned (.string (strL (Ru.encL p))) /\ Below W.heap.size W w') := fun W => encoded_any p W hp1
            have hx1 : (at_ : Int) <= (at_ : Int) + 3 := by omega
            have hx2 : (at_ : Int) + 3 <= (s.size : Int) := by omega
            by_cases heq : Ru.encL p = (s.data.toList.drop at_).take 3
            · have hbeq : ((strL (Ru.encL p)).toList == (s.extract at_ (at_ + 3)).toList) = true := by
                rw [strL_list, Lib.toList_data, extract_mid, heq];exact beq_self_eq_true _
              have HR : Hid (Ru.firstL (s.data.toList.drop at_) = some (p, 3)) := by
                show _ = _;rw [HFP.out, if_pos ⟨by rw [HLEN.out]; omega, hsb.out, heq⟩]
              clear heq;go_wp2_with fail
              refine wp_region_quiet_below (by kernel_rfl) (by kernel_rfl) ?_;repeat (go_big_quiet_step ((first | (go_at_call 151; exact same_quiet (HSC.out _)) | (go_at_call 146; exact below_quiet (HEN.out _)))))
              refine wpQuiet_nil ?_;intro w2 hw';have hb2 := hI (bw_below hw');clear hw';go_wp2;go_ret2;exact ⟨by rw [HR.out]; rfl, hb2.out⟩
            · have hbeq : ((strL (Ru.encL p)).toList == (s.extract at_ (at_ + 3)).toList) = false := by
                rw [strL_list, Lib.toList_data, extract_mid];exact beq_eq_false_iff_ne.2 heq
              have HR : Hid (Ru.firstL (s.data.toList.drop at_) = none) := by
                show _ = _;rw [HFP.out, if_neg (fun h => heq h.2.2)]
              clear heq;go_wp2_with fail
              refine wp_region_quiet_below (by kernel_rfl) (by kernel_rfl) ?_;repeat (go_big_quiet_step ((first | (go_at_call 151; exact same_quiet (HSC.out _)) | (go_at_call 146; exact below_quiet (HEN.out _)))))
              refine wpQuiet_nil ?_;intro w2 hw';have hb2 := hI (bw_below hw');clear hw';go_wp2;go_ret2;exact ⟨by rw [HR.out]; rfl, hb2.out⟩
    · have hfz : (s.size : Int) < (at_ : Int) + 3 := by omega
      have HR : Hid (Ru.firstL (s.data.toList.drop at_) = none) := by
        show _ = _;rw [HF.out _ rfl, if_neg (fun h => by rw [HLEN.out] at h; omega)]
      go_enter Tryz.func130, Tryz.ntmps130
      go_wp2;go_ret2;exact ⟨by rw [HR.out]; rfl, Below.refl _ _⟩
  · by_cases hfit : at_ + 2 <= s.size
    · have hfz : ¬ (s.size : Int) < (at_ : Int) + 2 := by omega
      go_enter Tryz.func130, Tryz.ntmps130
      go_wp2_with fail
      go_loop [6, 8] (fun vp vi => ∃ (k p : Nat), 1 <= k /\ k <= 2 /\ vi = .int .i64 k /\ vp = .int .i64 p /\ Hid (p = Ru.cont p0 ((s.data.toList.drop (at_ + 1)).take (k - 1)))) (fun _ vi => 2 - (intOf vi).toNat)
      case atStart => exact ⟨1, p0, by omega, by omega, rfl, by first | rfl | (congr 1; omega), rfl⟩
      case round =>
        obtain ⟨k, p, hk1, hk2, rfl, rfl, HP⟩ := hrel;have hpb : p < 67371008 := by rw [HP.out]; exact cont_bound hp0 (by simp; omega)
        by_cases hlt : k < 2
        · have hltz : (k : Int) < 2 := by omega
          have hix : at_ + k < s.size := by omega
          have hbk : (s[at_ + k]'hix).toNat < 256 := UInt8.toNat_lt _
          have HN : Hid (p * 64 + (s[at_ + k]'hix).toNat % 64 = Ru.cont p0 ((s.data.toList.drop (at_ + 1)).take (k + 1 - 1))) := by
            show _ = _;have := cont_next s p0 at_ k hk1 hix;rw [this, <- HP.out]
          go_wp2;go_round
          case rel => exact ⟨k + 1, p * 64 + (s[at_ + k]'hix).toNat % 64, by omega, by omega, by go_num, by first | rfl | (congr 1; omega), HN⟩
          case measure => simp [intOf]; omega
        · have hltz : ¬ (k : Int) < 2 := by omega
          obtain rfl : k = 2 := by omega
          have HFP := hI (HF.out p HP.out);have hsc := fun W => (scalar_any (p : Int) W).mono (R' := fun e w' => e = .returned (.bool (Ru.scalarB p)) /\ W = w') (fun _ _ h => h)
          obtain ⟨sb, hsb⟩ : ∃ sb, Hid (Ru.scalarB p = sb) := ⟨_, rfl⟩;rw [hsb.out] at hsc;have HSC := hI hsc; clear hsc
          cases sb with
          | false =>
            have HR : Hid (Ru.firstL (s.data.toList.drop at_) = none) := by
              show _ = _;rw [HFP.out, if_neg (fun h => by rw [hsb.out] at h; cases h.2.1)]
            go_wp2_with fail
            refine wp_region_quiet_below (by kernel_rfl) (by kernel_rfl) ?_;repeat (go_big_quiet_step ((first | (go_at_call 151; exact same_quiet (HSC.out _)))))
            refine wpQuiet_nil ?_;intro w2 hw';have hb2 := hI (bw_below hw');clear hw';go_wp2;go_ret2;exact ⟨by rw [HR.out]; rfl, hb2.out⟩
          | true =>
            have hp1 : p <= 1114111 := by have := hsb.out; simp [Ru.scalarB] at this; omega
            have HEN : Hid (∀ W : World, Calls Tryz.prog 146 #[.int .i64 p] W fun e w' => e = .returned (.string (strL (Ru.encL p))) /\ Below W.heap.size W w') := fun W => encoded_any p W hp1
            have hx1 : (at_ : Int) <= (at_ : Int) + 2 := by omega
            have hx2 : (at_ : Int) + 2 <= (s.size : Int) := by omega
            by_cases heq : Ru.encL p = (s.data.toList.drop at_).take 2
            · have hbeq : ((strL (Ru.encL p)).toList == (s.extract at_ (at_ + 2)).toList) = true := by
                rw [strL_list, Lib.toList_data, extract_mid, heq];exact beq_self_eq_true _
              have HR : Hid (Ru.firstL (s.data.toList.drop at_) = some (p, 2)) := by
                show _ = _;rw [HFP.out, if_pos ⟨by rw [HLEN.out]; omega, hsb.out, heq⟩]
              clear heq;go_wp2_with fail
              refine wp_region_quiet_below (by kernel_rfl) (by kernel_rfl) ?_;repeat (go_big_quiet_step ((first | (go_at_call 151; exact same_quiet (HSC.out _)) | (go_at_call 146; exact below_quiet (HEN.out _)))))
              refine wpQuiet_nil ?_;intro w2 hw';have hb2 := hI (bw_below hw');clear hw';go_wp2;go_ret2;exact ⟨by rw [HR.out]; rfl, hb2.out⟩
            · have hbeq : ((strL (Ru.encL p)).toList == (s.extract at_ (at_ + 2)).toList) = false := by
                rw [strL_list, Lib.toList_data, extract_mid];exact beq_eq_false_iff_ne.2 heq
              have HR : Hid (Ru.firstL (s.data.toList.drop at_) = none) := by
                show _ = _;rw [HFP.out, if_neg (fun h => heq h.2.2)]
              clear heq;go_wp2_with fail
              refine wp_region_quiet_below (by kernel_rfl) (by kernel_rfl) ?_;repeat (go_big_quiet_step ((first | (go_at_call 151; exact same_quiet (HSC.out _)) | (go_at_call 146; exact below_quiet (HEN.out _)))))
              refine wpQuiet_nil ?_;intro w2 hw';have hb2 := hI (bw_below hw');clear hw';go_wp2;go_ret2;exact ⟨by rw [HR.out]; rfl, hb2.out⟩
    · have hfz : (s.size : Int) < (at_ : Int) + 2 := by omega
      have HR : Hid (Ru.firstL (s.data.toList.drop at_) = none) := by
        show _ = _;rw [HF.out _ rfl, if_neg (fun h => by rw [HLEN.out] at h; omega)]
      go_enter Tryz.func130, Tryz.ntmps130
      go_wp2;go_ret2;exact ⟨by rw [HR.out]; rfl, Below.refl _ _⟩
  · by_cases hfit : at_ + 1 <= s.size
    · have hfz : ¬ (s.size : Int) < (at_ : Int) + 1 := by omega
      go_enter Tryz.func130, Tryz.ntmps130
      go_wp2_with fail
      go_loop [6, 8] (fun vp vi => ∃ (k p : Nat), 1 <= k /\ k <= 1 /\ vi = .int .i64 k /\ vp = .int .i64 p /\ Hid (p = Ru.cont p0 ((s.data.toList.drop (at_ + 1)).take (k - 1)))) (fun _ vi => 1 - (intOf vi).toNat)
      case atStart => exact ⟨1, p0, by omega, by omega, rfl, by first | rfl | (congr 1; omega), rfl⟩
      case round =>
        obtain ⟨k, p, hk1, hk2, rfl, rfl, HP⟩ := hrel;have hpb : p < 67371008 := by rw [HP.out]; exact cont_bound hp0 (by simp; omega)
        by_cases hlt : k < 1
        · exfalso; omega
        · have hltz : ¬ (k : Int) < 1 := by omega
          obtain rfl : k = 1 := by omega
          have HFP := hI (HF.out p HP.out);have hsc := fun W => (scalar_any (p : Int) W).mono (R' := fun e w' => e = .returned (.bool (Ru.scalarB p)) /\ W = w') (fun _ _ h => h)
          obtain ⟨sb, hsb⟩ : ∃ sb, Hid (Ru.scalarB p = sb) := ⟨_, rfl⟩;rw [hsb.out] at hsc;have HSC := hI hsc; clear hsc
          cases sb with
          | false =>
            have HR : Hid (Ru.firstL (s.data.toList.drop at_) = none) := by
              show _ = _;rw [HFP.out, if_neg (fun h => by rw [hsb.out] at h; cases h.2.1)]
            go_wp2_with fail
            refine wp_region_quiet_below (by kernel_rfl) (by kernel_rfl) ?_;repeat (go_big_quiet_step ((first | (go_at_call 151; exact same_quiet (HSC.out _)))))
            refine wpQuiet_nil ?_;intro w2 hw';have hb2 := hI (bw_below hw');clear hw';go_wp2;go_ret2;exact ⟨by rw [HR.out]; rfl, hb2.out⟩
          | true =>
            have hp1 : p <= 1114111 := by have := hsb.out; simp [Ru.scalarB] at this; omega
            have HEN : Hid (∀ W : World, Calls Tryz.prog 146 #[.int .i64 p] W fun e w' => e = .returned (.string (strL (Ru.encL p))) /\ Below W.heap.size W w') := fun W => encoded_any p W hp1
            have hx1 : (at_ : Int) <= (at_ : Int) + 1 := by omega
            have hx2 : (at_ : Int) + 1 <= (s.size : Int) := by omega
            by_cases heq : Ru.encL p = (s.data.toList.drop at_).take 1
            · have hbeq : ((strL (Ru.encL p)).toList == (s.extract at_ (at_ + 1)).toList) = true := by
                rw [strL_list, Lib.toList_data, extract_mid, heq];exact beq_self_eq_true _
              have HR : Hid (Ru.firstL (s.data.toList.drop at_) = some (p, 1)) := by
                show _ = _;rw [HFP.out, if_pos ⟨by rw [HLEN.out]; omega, hsb.out, heq⟩]
              clear heq;go_wp2_with fail
              refine wp_region_quiet_below (by kernel_rfl) (by kernel_rfl) ?_;repeat (go_big_quiet_step ((first | (go_at_call 151; exact same_quiet (HSC.out _)) | (go_at_call 146; exact below_quiet (HEN.out _)))))
              refine wpQuiet_nil ?_;intro w2 hw';have hb2 := hI (bw_below hw');clear hw';go_wp2;go_ret2;exact ⟨by rw [HR.out]; rfl, hb2.out⟩
            · have hbeq : ((strL (Ru.encL p)).toList == (s.extract at_ (at_ + 1)).toList) = false := by
                rw [strL_list, Lib.toList_data, extract_mid];exact beq_eq_false_iff_ne.2 heq
              have HR : Hid (Ru.firstL (s.data.toList.drop at_) = none) := by
                show _ = _;rw [HFP.out, if_neg (fun h => heq h.2.2)]
              clear heq;go_wp2_with fail
              refine wp_region_quiet_below (by kernel_rfl) (by kernel_rfl) ?_;repeat (go_big_quiet_step ((first | (go_at_call 151; exact same_quiet (HSC.out _)) | (go_at_call 146; exact below_quiet (HEN.out _)))))
              refine wpQuiet_nil ?_;intro w2 hw';have hb2 := hI (bw_below hw');clear hw';go_wp2;go_ret2;exact ⟨by rw [HR.out]; rfl, hb2.out⟩
    · exfalso; omega
theorem scalar_le {p : Nat} (h : Ru.scalarB (p : Int) = true) : p <= 1114111 := by
 unfold Ru.scalarB at h;rw [Bool.and_eq_true, Bool.and_eq_true] at h;have := of_decide_eq_true h.1.2;omega
set_option maxHeartbeats 1000000 in
set_option maxRecDepth 100000 in
theorem points02_any (s : ByteArray) (w : World) (hs : s.size <= 1099511627776) :
    Calls Tryz.prog 110 #[.string s] w (PointsPost w (Ru.points s.data.toList)) := by
  obtain ⟨i0, hi, hz0, hz1, hz2⟩ := info_parts info_int;go_enter Tryz.func110, Tryz.ntmps110
  go_wp2_with fail
  go_loopw [4, 5, 6, 7] (fun v4 v5 _ _ wr => ∃ (at_ : Nat) (d : List Nat), at_ <= s.size /\ v5 = .int .i64 at_ /\ d.length <= at_ /\ wr.ownsRow w.heap.size 3 1 v4 d.length (d.map fun (p : Nat) => Value.int .i64 (p : Int)) /\
    Hid (Ru.points s.data.toList = (Ru.points (s.data.toList.drop at_)).map (d ++ ·)) /\ Hid (Below w.heap.size w wr)) (fun _ v5 _ _ _ => s.size - (intOf v5).toNat)
  case atStart => exact ⟨0, [], Nat.zero_le _, rfl, Nat.le_refl _, World.ownsRow_nil _ _ _ _, (show _ = _ by cases h : Ru.points s.data.toList <;> simp [h]), Below.refl _ _⟩
  case round =>
    obtain ⟨at_, d, hat, rfl, hda, hown, HD, HB⟩ := hrel;have hszw := HB.out.size;by_cases hr : at_ < s.size
    · have hne : s.data.toList.drop at_ ≠ [] := by
        intro h0;have := congrArg List.length h0;rw [List.length_drop, <- Lib.size_eq] at this;simp at this
        omega
      have HF := hI (first02_any s at_ wr hr hs);obtain ⟨o, ho⟩ : ∃ o, Hid (Ru.firstL (s.data.toList.drop at_) = o) := ⟨_, rfl⟩;rw [ho.out] at HF;have HOWN := hI hown; clear hown
      cases o with
      | none =>
        have HP : Hid (Ru.points s.data.toList = none) := by
          show _ = _;rw [HD.out, Ru.points_none hne ho.out];rfl
        go_wp2_with fail
        refine HF.out.mono ?_;rintro e w1 ⟨rfl, hb1⟩;have HB1 := hI hb1; clear hb1
        unfold firstV;go_wp2;go_ret2;refine ⟨fun _ => rfl, (fun d hd => by rw [HP.out] at hd; cases hd), HB.out.trans (HB1.out.mono hszw)⟩
      | some pn =>
        obtain ⟨p, n⟩ := pn;obtain ⟨f1, f2, f3, f4, _⟩ := Ru.firstL_some ho.out;rw [List.length_drop, <- Lib.size_eq] at f3;have hp1 : p <= 1114111 := scalar_le f4;clear f4
        have HP : Hid (Ru.points s.data.toList = (Ru.points (s.data.toList.drop (at_ + n))).map ((d ++ [p]) ++ ·)) := by
          show _ = _;rw [HD.out, Ru.points_some ho.out, List.drop_drop, Option.map_map];congr 1
          funext x
          simp
        have hn0 : ((n : Int) == 0) = false := beq_eq_false_iff_ne.2 (by omega);go_wp2_with fail
        refine HF.out.mono ?_;rintro e w1 ⟨rfl, hb1⟩;have HB1 := hI hb1; clear hb1
        have HOWN1 := hI (own_below HOWN.out HB1.out);have hszw1 : w.heap.size <= w1.heap.size := Nat.le_trans hszw HB1.out.size;have HBB : Hid (Below w.heap.size w w1) := HB.out.trans (HB1.out.mono hszw);clear HOWN HB1;unfold firstV;go_wp2_with (at_builtin; refine wpList_app1 rfl (.tmp 20) (.tmp 22) _ rfl w.heap.size 3 8 _ info_int rfl Tryz.underlying32 rfl HOWN1.out rfl rfl (by omega) (by omega) (by omega) ?_; rintro v7 w2 hown7 hb2 hs2 hk2; clear hk2)
        have HB2 := hI hb2; clear hb2
        go_roundw
        case rel => exact ⟨at_ + n, d ++ [p], by omega, by go_num, by simp; omega, by simpa using hown7, HP, HBB.out.trans HB2.out⟩
        case measure => simp [intOf]; omega
    · have hat' : at_ = s.size := by omega
      have HP : Hid (Ru.points s.data.toList = some d) := by
        show _ = _;rw [HD.out, hat', Lib.size_eq, List.drop_length, Ru.points_nil];simp
      clear hat';go_wp2;go_ret2;refine ⟨(fun h => by rw [HP.out] at h; cases h), fun d' hd => ?_, HB.out⟩;rw [HP.out] at hd
      cases hd;exact ⟨_, rfl, hown⟩
theorem flat_le (l : List Int) : (l.flatMap Ru.encL).length <= 4 * l.length := by
 induction l with
 | nil => simp
 | cons x t ih =>
  have := (Ru.encL_len x).2;simp only [List.flatMap_cons, List.length_append, List.length_cons];omega
end
section
open Go.RowKit Ru
theorem encS_le (l : List Nat) : (Ru.encS l).length <= 4 * l.length := by
 have := flat_le (l.map fun (p : Nat) => (p : Int));rw [List.flatMap_map, List.length_map] at this;exact this
end
section
open Go.RowKit Ru
attribute [local go_sem ↓] Go.wp_at_zero Go.wp_at_succ
theorem own_stored {w : World} {base e g n cap k : Nat} {done : List (List Nat)} {c c' : List Nat} (h : w.ownsRow base e 1 (.slice (some ⟨g, 0, none⟩) n cap) n (strV (done ++ [c]))) (hk : done.length = k) :
  (w.setCell ⟨g, k, none⟩ (.string (strC c'))).ownsRow base e 1 (.slice (some ⟨g, 0, none⟩) n cap) n (strV (done ++ [c'])) /\ Below base w (w.setCell ⟨g, k, none⟩ (.string (strC c'))) := by
 subst hk;have h2 := h.stored done.length (.string (strC c'))
 have e1 : (strV (done ++ [c])).set done.length (.string (strC c')) = strV (done ++ [c']) := by
  unfold strV;rw [List.map_append, List.map_append, List.set_append_right _ _ (by simp)];simp
 rw [e1] at h2;exact ⟨h2.1, bR.grown h2.2 (Nat.le_of_lt (Nat.lt_of_le_of_lt (h.lt g rfl).1 (h.lt g rfl).2)) fun k hk => by cases hk; exact (h.lt g rfl).1⟩
set_option maxHeartbeats 4000000 in
set_option maxRecDepth 100000 in
theorem refClusters_any (s : ByteArray) (w : World) (hs : s.size <= 1099511627) :
    Calls Tryz.prog 126 #[.string s] w fun e w' => ∃ v, e = .returned v /\ w'.ownsRow w.heap.size 9 1 v (clusB s.data.toList).length ((clusB s.data.toList).map .string) /\ Below w.heap.size w w' := by
  have HPT := hI (points02_any s w (by omega));obtain ⟨o, ho⟩ : ∃ o, Hid (points s.data.toList = o) := ⟨_, rfl⟩;rw [ho.out] at HPT
  cases o with
  | none =>
    have HRES : Hid (clusB s.data.toList = []) := by
      show _ = _;unfold clusB;rw [ho.out]
    rw [HRES.out];go_enter Tryz.func126, Tryz.ntmps126
    go_wp2_with fail
    refine HPT.out.mono ?_;rintro e w1 ⟨h1, _, hb1⟩;rw [h1 rfl];clear h1;go_wp2;go_ret;exact ⟨_, rfl, World.ownsRow_nil _ _ _ _, hb1⟩
  | some d =>
    have HSC : Hid (Sc d) := points_sc ho.out
    have hdl : d.length <= 1099511627 := by
      have := points_length _ _ _ (Nat.le_refl _) ho.out;rw [<- Lib.size_eq] at this;omega
    have HRES : Hid (clusB s.data.toList = (clus d).map strC) := by
      show _ = _;unfold clusB;rw [ho.out]
    rw [HRES.out];go_enter Tryz.func126, Tryz.ntmps126
    go_wp2_with fail
    refine HPT.out.mono ?_;rintro e w1 ⟨_, h2, hb1⟩;obtain ⟨v, rfl, hown⟩ := h2 d rfl;clear h2;obtain ⟨AD, cd, rfl, hcd1, hcd2, rd⟩ := own_form hown;have HD : Hid (NR w1 w1.heap.size AD d.length d) := rd;have HB1 := hI hb1;obtain ⟨nd, hnd⟩ : ∃ q, d.length = q := ⟨_, rfl⟩;rw [hnd] at HD hcd1 hdl |-;have HND := hI hnd;clear rd hown hb1 HPT hnd;go_wp2_with fail
    go_loopw [5, 6] (fun v5 v6 wr => ∃ (i : Nat) (cs : List (List Nat)), i <= nd /\ v6 = .int .i64 i /\ cs.length <= i /\ Hid (wr.ownsRow w1.heap.size 9 1 v5 cs.length (strV cs)) /\ Hid (CluRel d i cs) /\ Hid (Below w1.heap.size w1 wr)) (fun _ v6 _ => nd - (intOf v6).toNat)
    case atStart => exact ⟨0, [], Nat.zero_le _, rfl, Nat.le_refl _, World.ownsRow_nil _ _ _ _, .inl ⟨rfl, rfl⟩, Below.refl _ _⟩
    case round =>
      obtain ⟨i, cs, hi, rfl, hcsl, HO, HCR, HBR⟩ := hrel;have hszw := HBR.out.size;by_cases hlt : i < nd
      · have hiz : (i : Int) < (nd : Int) := by omega
        obtain ⟨ad, p, rfl, hbl, hp, hcp⟩ := HD.out.at_ hlt;have hcpr : wr.cell? (ad.add i) = some (.int .i64 (p : Int)) := (HBR.out.cell (by rw [block_of_add]; exact hbl)).trans hcp;have HP := hI hp; clear hp hcp
        have HCP : Hid (∀ W, Below w1.heap.size w1 W -> W.cell? (ad.add i) = some (.int .i64 (p : Int))) := by
          obtain ⟨ad2, p2, e1, _, hp2, hcp2⟩ := HD.out.at_ hlt
          cases e1;have : p2 = p := by have := HP.out; rw [hp2] at this; exact Option.some.inj this
          subst this;exact fun W hW => (hW.cell (by rw [block_of_add]; exact hbl)).trans hcp2
        have HPS : Hid (scalarB (p : Int) = true) := HSC.out p (List.mem_of_getElem? HP.out);have hpl := scalar_le HPS.out;have HEN := hI fun W => encoded_any p W hpl
        have hel : (strL (encL (p : Int))).size <= 4 := by rw [strL_size]; exact (encL_len _).2
        by_cases hi0 : i = 0
        · have hcs : cs = [] := by
            rcases HCR.out with ⟨_, h⟩ | ⟨h, _⟩
            · exact h
            · omega
          subst hcs;obtain ⟨c2, hc2⟩ : ∃ c2, c2 = [p] := ⟨_, rfl⟩;have HC2 : Hid (([] : List Nat) ++ [p] = c2) := hc2.symm;have HCI : Hid (([] : List Nat).length <= i) := Nat.zero_le _
          have HRL : Hid (CluRel d (i + 1) (([] : List (List Nat)) ++ [c2])) := by
            have h0 := HP.out;rw [hi0] at h0 |-;rw [hc2];exact CluRel.start h0
          clear hc2;have he0 : ((i : Int) == 0) = true := beq_iff_eq.2 (by omega);have HI0 : Hid (i = 0) := hi0;go_wp2_with (at_builtin; refine wpList_app1 rfl (.tmp 30) (.tmp 31) 45 rfl w1.heap.size 9 16 (.string .empty) info_string rfl Tryz.underlying45 rfl HO.out rfl rfl (by omega) (by omega) hszw ?_; rintro v7 w2 hown7 hb7 hs7 hk7; clear hk7)
          obtain ⟨g, cap, rfl, _, _⟩ := hown7.form (by omega);obtain ⟨k, hk⟩ : ∃ k, k = 0 := ⟨0, rfl⟩;obtain ⟨n1, hn1⟩ : ∃ n1, n1 = 0 + 1 := ⟨_, rfl⟩;obtain ⟨x, hx⟩ : ∃ x, strC [] = x := ⟨_, rfl⟩;have HX := hI hx;have HK : Hid (([] : List (List Nat)).length = k) := by show _ = _; rw [hk]; rfl
          have HROW : Hid (w2.ownsRow w1.heap.size 9 1 (.slice (some ⟨g, 0, none⟩) n1 cap) n1 (strV ([] ++ [[]]))) := by
            show World.ownsRow _ _ _ _ _ _ _;rw [hn1];exact hown7
          have HBW : Hid (Below w1.heap.size w1 w2) := HBR.out.trans hb7;have HCL : Hid ((([] : List (List Nat)) ++ [c2]).length <= i + 1) := by show _ <= _; simp
          have hn1k : n1 = k + 1 := by omega
          have HN1 : Hid (n1 = k + 1) := hn1k;have hki : k <= i := by omega
          rw [show (List.length ([] : List (List Nat)) + 1) = n1 by rw [hn1]; rfl];clear hx hk hown7 hb7 hs7 hn1 hi0 he0;have hkn : k + 1 = n1 := by omega
          have hcl : w2.cell? ⟨g, k, none⟩ = some (.string x) := by
            rw [HROW.out.cellAt k (by omega)];unfold strV;rw [List.map_append, List.getElem?_append_right (by rw [List.length_map, HK.out]; exact Nat.le_refl _), List.length_map, HK.out, Nat.sub_self, <- HX.out];rfl
          have hfl : w2.frozen? ⟨g, k, none⟩ = false := HROW.out.frozenAt k;have hgl : g < w2.heap.size := (HROW.out.lt g rfl).2
          have hxs : x.size <= 4 * i := by
            rw [<- HX.out];unfold strC;rw [strL_size];exact Nat.le_trans (encS_le ([] : List Nat)) (by have := HCI.out; omega)
          have hcat : x.size + (strL (encL (p : Int))).size <= 9223372036854775807 := by omega
          have HCC : Hid (x ++ strL (encL (p : Int)) = strC c2) := by
            refine ba_ext ?_;rw [<- HC2.out];unfold strC;rw [app_data, strL_data, strL_data, <- HX.out, encS_app, encS_one];unfold strC;rw [strL_data]
          have hj1 : wrap64 ((n1 : Int) - 1) = (k : Int) := by unfold wrap64; omega
          have hj2 : (n1 : Int) - 1 = (k : Int) := by omega
          have hj3 : n1 - 1 = k := by omega
          have hj4 : ((n1 : Int) - 1).toNat = k := by omega
          have hj5 : IntKind.i64.wrap ((n1 : Int) - 1) = (k : Int) := by rw [hj2]; exact IntWalk.i64_in _ (by omega)
          have hj6 : IntKind.i64.wrap (k : Int) = (k : Int) := IntWalk.i64_in _ (by omega);have hjn : (k : Int) < (n1 : Int) := by omega
          have hjn' : k < n1 := by omega
          have hjA : (0 : Int) <= (k : Int) := by omega
          have hcpW : w2.cell? (ad.add i) = some (.int .i64 (p : Int)) := HCP.out _ HBW.out
          have eaddr : (⟨g, 0, none⟩ : Addr).add k = ⟨g, k, none⟩ := by
            unfold Addr.add;split
            · rename_i h; simp [h]
            · simp
          clear hkn hn1k
          have hcp0 : w2.cell? ad = some (.int .i64 (p : Int)) := by
            have h0 := hcpW;rw [HI0.out] at h0;simpa [Addr.add] using h0
          go_region_with ((go_at_call 146; refine (HEN.out _).mono ?_; rintro e w3 ⟨rfl, hb3⟩
                           have hl3 : w3.cell? ⟨g, k, none⟩ = some (.string x) := (hb3.cell hgl).trans hcl;have hf3 : w3.frozen? ⟨g, k, none⟩ = false := (hb3.frozen hgl).trans hfl))
          all_goals
            have HBB : Hid (Below w2.heap.size w2 w3) := (Below.refl _ w2).drew.trans hb3;have hown3 := own_below HROW.out HBB.out;have hst := own_stored (c' := c2) hown3 HK.out
            have HO4 : Hid ((w3.setCell ⟨g, k, none⟩ (.string (strC c2))).ownsRow w1.heap.size 9 1 (.slice (some ⟨g, 0, none⟩) n1 cap) (([] : List (List Nat)) ++ [c2]).length (strV (([] : List (List Nat)) ++ [c2]))) := by
              have h0 := hst.1;show World.ownsRow _ _ _ _ _ _ _;rw [List.length_append, HK.out, List.length_singleton, <- HN1.out];exact h0
            have HB4 : Hid (Below w1.heap.size w1 (w3.setCell ⟨g, k, none⟩ (.string (strC c2)))) := (HBW.out.trans (HBB.out.mono HBW.out.size)).trans hst.2;clear hst hown3 hb3 hl3 hf3;rw [HCC.out];go_wp2;go_roundw
            case rel => exact ⟨i + 1, ([] : List (List Nat)) ++ [c2], by omega, (by rw [HI0.out]; rfl), HCL.out, HO4, HRL.out, HB4⟩
            case measure => have := HI0.out; simp [intOf]; omega
        · have he0 : ((i : Int) == 0) = false := beq_eq_false_iff_ne.2 (by omega)
          obtain ⟨done, c, hcs, hcl0, hcl1⟩ : ∃ done c, cs = done ++ [c] /\ c.length <= i /\ clus d = done ++ cluGo c (d.drop i) := by
            rcases HCR.out with ⟨h, _⟩ | ⟨_, h⟩
            · omega
            · exact h
          subst hcs;have HCL1 := hI hcl1; clear hcl1
          obtain ⟨mp, hmp⟩ : ∃ b, Hid (mk p = b) := ⟨_, rfl⟩;have HMK : Hid (Calls Tryz.prog 145 #[.int .i64 (p : Int)] wr fun e w' => e = .returned (.bool mp) /\ wr = w') := mono_eq (refMark_any p wr) (by rw [<- hmp.out]; rfl);obtain ⟨m0, hm0⟩ : ∃ m0, (done ++ [c]).length = m0 := ⟨_, rfl⟩;rw [hm0] at HO hcsl;have HM0 := hI hm0;clear hm0 hi0
          cases mp with
          | false =>
            obtain ⟨c2, hc2⟩ : ∃ c2, c2 = [p] := ⟨_, rfl⟩;have HC2 : Hid (([] : List Nat) ++ [p] = c2) := hc2.symm;have HCI : Hid (([] : List Nat).length <= i) := Nat.zero_le _
            have HRL : Hid (CluRel d (i + 1) ((done ++ [c]) ++ [c2])) := by
              rw [hc2];exact CluRel.base HCL1.out hcl0 HP.out hmp.out
            clear hc2
            go_wp2_with (first
              | (go_at_call 145; refine HMK.out.mono ?_; rintro e w2 ⟨rfl, rfl⟩)
              | (at_builtin; refine wpList_app1 rfl (.tmp 30) (.tmp 31) 45 rfl w1.heap.size 9 16 (.string .empty) info_string rfl Tryz.underlying45 rfl HO.out rfl rfl (by omega) (by omega) hszw ?_; rintro v7 w2 hown7 hb7 hs7 hk7; clear hk7))
            obtain ⟨g, cap, rfl, _, _⟩ := hown7.form (by omega);obtain ⟨n1, hn1⟩ : ∃ n1, n1 = m0 + 1 := ⟨_, rfl⟩;obtain ⟨k, hk⟩ : ∃ k, k = m0 := ⟨_, rfl⟩;obtain ⟨x, hx⟩ : ∃ x, strC [] = x := ⟨_, rfl⟩;have HX := hI hx;have HK : Hid ((done ++ [c]).length = k) := by show _ = _; rw [hk]; exact HM0.out
            have HROW : Hid (w2.ownsRow w1.heap.size 9 1 (.slice (some ⟨g, 0, none⟩) n1 cap) n1 (strV ((done ++ [c]) ++ [[]]))) := by
              show World.ownsRow _ _ _ _ _ _ _;rw [hn1];unfold strV;rw [List.map_append];exact hown7
            have HBW : Hid (Below w1.heap.size w1 w2) := HBR.out.trans hb7;have HCL : Hid (((done ++ [c]) ++ [c2]).length <= i + 1) := by show _ <= _; rw [List.length_append, HM0.out]; simp; omega
            have hn1k : n1 = k + 1 := by omega
            have HN1 : Hid (n1 = k + 1) := hn1k;have hki : k <= i := by omega
            rw [<- hn1];clear hx hk hown7 hb7 hs7 hn1 he0;have hkn : k + 1 = n1 := by omega
            have hcl : w2.cell? ⟨g, k, none⟩ = some (.string x) := by
              rw [HROW.out.cellAt k (by omega)];unfold strV;rw [List.map_append, List.getElem?_append_right (by rw [List.length_map, HK.out]; exact Nat.le_refl _), List.length_map, HK.out, Nat.sub_self, <- HX.out];rfl
            have hfl : w2.frozen? ⟨g, k, none⟩ = false := HROW.out.frozenAt k;have hgl : g < w2.heap.size := (HROW.out.lt g rfl).2
            have hxs : x.size <= 4 * i := by
              rw [<- HX.out];unfold strC;rw [strL_size];exact Nat.le_trans (encS_le ([] : List Nat)) (by have := HCI.out; omega)
            have hcat : x.size + (strL (encL (p : Int))).size <= 9223372036854775807 := by omega
            have HCC : Hid (x ++ strL (encL (p : Int)) = strC c2) := by
              refine ba_ext ?_;rw [<- HC2.out];unfold strC;rw [app_data, strL_data, strL_data, <- HX.out, encS_app, encS_one];unfold strC;rw [strL_data]
            have hj1 : wrap64 ((n1 : Int) - 1) = (k : Int) := by unfold wrap64; omega
            have hj2 : (n1 : Int) - 1 = (k : Int) := by omega
            have hj3 : n1 - 1 = k := by omega
            have hj4 : ((n1 : Int) - 1).toNat = k := by omega
            have hj5 : IntKind.i64.wrap ((n1 : Int) - 1) = (k : Int) := by rw [hj2]; exact IntWalk.i64_in _ (by omega)
            have hj6 : IntKind.i64.wrap (k : Int) = (k : Int) := IntWalk.i64_in _ (by omega);have hjn : (k : Int) < (n1 : Int) := by omega
            have hjn' : k < n1 := by omega
            have hjA : (0 : Int) <= (k : Int) := by omega
            have hcpW : w2.cell? (ad.add i) = some (.int .i64 (p : Int)) := HCP.out _ HBW.out
            have eaddr : (⟨g, 0, none⟩ : Addr).add k = ⟨g, k, none⟩ := by
              unfold Addr.add;split
              · rename_i h; simp [h]
              · simp
            clear hkn hn1k
            go_region_with ((go_at_call 146; refine (HEN.out _).mono ?_; rintro e w3 ⟨rfl, hb3⟩
                             have hl3 : w3.cell? ⟨g, k, none⟩ = some (.string x) := (hb3.cell hgl).trans hcl;have hf3 : w3.frozen? ⟨g, k, none⟩ = false := (hb3.frozen hgl).trans hfl))
            all_goals
              have HBB : Hid (Below w2.heap.size w2 w3) := (Below.refl _ w2).drew.trans hb3;have hown3 := own_below HROW.out HBB.out;have hst := own_stored (c' := c2) hown3 HK.out
              have HO4 : Hid ((w3.setCell ⟨g, k, none⟩ (.string (strC c2))).ownsRow w1.heap.size 9 1 (.slice (some ⟨g, 0, none⟩) n1 cap) ((done ++ [c]) ++ [c2]).length (strV ((done ++ [c]) ++ [c2]))) := by
                have h0 := hst.1;show World.ownsRow _ _ _ _ _ _ _;rw [List.length_append, HK.out, List.length_singleton, <- HN1.out];exact h0
              have HB4 : Hid (Below w1.heap.size w1 (w3.setCell ⟨g, k, none⟩ (.string (strC c2)))) := (HBW.out.trans (HBB.out.mono HBW.out.size)).trans hst.2;clear hst hown3 hb3 hl3 hf3;rw [HCC.out];go_wp2;go_roundw
              case rel => exact ⟨i + 1, (done ++ [c]) ++ [c2], by omega, by go_num, HCL.out, HO4, HRL.out, HB4⟩
              case measure => simp [intOf]; omega
          | true =>
            obtain ⟨c2, hc2⟩ : ∃ c2, c2 = c ++ [p] := ⟨_, rfl⟩;have HC2 : Hid (c ++ [p] = c2) := hc2.symm;have HCI : Hid (c.length <= i) := hcl0
            have HRL : Hid (CluRel d (i + 1) (done ++ [c2])) := by
              rw [hc2];exact CluRel.mark HCL1.out hcl0 HP.out hmp.out
            clear hc2;have hm1 : 1 <= m0 := by have := HM0.out; simp at this; omega
            obtain ⟨g, cap, rfl, _, _⟩ := HO.out.form (by omega);obtain ⟨n1, hn1⟩ : ∃ n1, n1 = m0 := ⟨_, rfl⟩;obtain ⟨k, hk⟩ : ∃ k, k + 1 = m0 := ⟨m0 - 1, by omega⟩;obtain ⟨x, hx⟩ : ∃ x, strC c = x := ⟨_, rfl⟩;have HX := hI hx;have HK : Hid (done.length = k) := by show _ = _; have := HM0.out; simp at this; omega
            have HROW : Hid (wr.ownsRow w1.heap.size 9 1 (.slice (some ⟨g, 0, none⟩) n1 cap) n1 (strV (done ++ [c]))) := by
              show World.ownsRow _ _ _ _ _ _ _;rw [hn1];exact HO.out
            have HBW : Hid (Below w1.heap.size w1 wr) := HBR.out;have HCL : Hid ((done ++ [c2]).length <= i + 1) := by show _ <= _; rw [List.length_append, HK.out]; simp; omega
            have hn1k : n1 = k + 1 := by omega
            have HN1 : Hid (n1 = k + 1) := hn1k;have hki : k <= i := by omega
            rw [<- hn1];clear hx hk hn1;have hkn : k + 1 = n1 := by omega
            have hcl : wr.cell? ⟨g, k, none⟩ = some (.string x) := by
              rw [HROW.out.cellAt k (by omega)];unfold strV;rw [List.map_append, List.getElem?_append_right (by rw [List.length_map, HK.out]; exact Nat.le_refl _), List.length_map, HK.out, Nat.sub_self, <- HX.out];rfl
            have hfl : wr.frozen? ⟨g, k, none⟩ = false := HROW.out.frozenAt k;have hgl : g < wr.heap.size := (HROW.out.lt g rfl).2
            have hxs : x.size <= 4 * i := by
              rw [<- HX.out];unfold strC;rw [strL_size];exact Nat.le_trans (encS_le c) (by have := HCI.out; omega)
            have hcat : x.size + (strL (encL (p : Int))).size <= 9223372036854775807 := by omega
            have HCC : Hid (x ++ strL (encL (p : Int)) = strC c2) := by
              refine ba_ext ?_;rw [<- HC2.out];unfold strC;rw [app_data, strL_data, strL_data, <- HX.out, encS_app, encS_one];unfold strC;rw [strL_data]
            have hj1 : wrap64 ((n1 : Int) - 1) = (k : Int) := by unfold wrap64; omega
            have hj2 : (n1 : Int) - 1 = (k : Int) := by omega
            have hj3 : n1 - 1 = k := by omega
            have hj4 : ((n1 : Int) - 1).toNat = k := by omega
            have hj5 : IntKind.i64.wrap ((n1 : Int) - 1) = (k : Int) := by rw [hj2]; exact IntWalk.i64_in _ (by omega)
            have hj6 : IntKind.i64.wrap (k : Int) = (k : Int) := IntWalk.i64_in _ (by omega);have hjn : (k : Int) < (n1 : Int) := by omega
            have hjn' : k < n1 := by omega
            have hjA : (0 : Int) <= (k : Int) := by omega
            have hcpW : wr.cell? (ad.add i) = some (.int .i64 (p : Int)) := HCP.out _ HBW.out
            have eaddr : (⟨g, 0, none⟩ : Addr).add k = ⟨g, k, none⟩ := by
              unfold Addr.add;split
              · rename_i h; simp [h]
              · simp
            clear hkn hn1k;go_wp2_with (go_at_call 145; refine HMK.out.mono ?_; rintro e w2 ⟨rfl, rfl⟩)
            clear he0
            go_region_with ((go_at_call 146; refine (HEN.out _).mono ?_; rintro e w3 ⟨rfl, hb3⟩
                             have hl3 : w3.cell? ⟨g, k, none⟩ = some (.string x) := (hb3.cell hgl).trans hcl;have hf3 : w3.frozen? ⟨g, k, none⟩ = false := (hb3.frozen hgl).trans hfl))
            all_goals
              have HBB : Hid (Below wr.heap.size wr w3) := (Below.refl _ wr).drew.trans hb3;have hown3 := own_below HROW.out HBB.out;have hst := own_stored (c' := c2) hown3 HK.out
              have HO4 : Hid ((w3.setCell ⟨g, k, none⟩ (.string (strC c2))).ownsRow w1.heap.size 9 1 (.slice (some ⟨g, 0, none⟩) n1 cap) (done ++ [c2]).length (strV (done ++ [c2]))) := by
                have h0 := hst.1;show World.ownsRow _ _ _ _ _ _ _;rw [List.length_append, HK.out, List.length_singleton, <- HN1.out];exact h0
              have HB4 : Hid (Below w1.heap.size w1 (w3.setCell ⟨g, k, none⟩ (.string (strC c2)))) := (HBW.out.trans (HBB.out.mono HBW.out.size)).trans hst.2;clear hst hown3 hb3 hl3 hf3;rw [HCC.out];go_wp2;go_roundw
              case rel => exact ⟨i + 1, done ++ [c2], by omega, by go_num, HCL.out, HO4, HRL.out, HB4⟩
              case measure => simp [intOf]; omega
      · obtain rfl : nd = i := by omega
        have hiz : ¬ (nd : Int) < (nd : Int) := by omega
        have HFIN : Hid (clus d = cs) := by
          have := HCR.out;rw [<- HND.out] at this;exact this.fin
        go_wp2;go_ret;refine ⟨_, rfl, ?_, HB1.out.trans (HBR.out.mono HB1.out.size)⟩;rw [HFIN.out];have h6 := own_base HO.out HB1.out.size;simpa [strV, List.map_map, Function.comp_def] using h6
end
end Go.Proofs.YthcabnfcgjnlnaaGreatDoor
namespace Go.Proofs.YthcabnfcgjnlnaaGreatDoor.Lay
open Go.Proofs.YthcabnfcgjnlnaaGreatDoor Go.Proofs.YthcabnfcgjnlnaaGreatDoor.Ru
def partR (L : List (List ByteArray)) (g : Nat × Nat) : List (List ByteArray) := L.map fun r => (List.range (g.2 - g.1)).map fun j => cellB r (g.1 + j)
theorem sp_zero : sp 0 = [] := rfl
theorem sp_snoc (n : Nat) : sp (n + 1) = sp n ++ [32] := by unfold sp; exact List.replicate_succ'
end Go.Proofs.YthcabnfcgjnlnaaGreatDoor.Lay
