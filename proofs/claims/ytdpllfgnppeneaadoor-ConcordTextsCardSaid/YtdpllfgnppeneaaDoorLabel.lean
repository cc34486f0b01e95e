import Derived.Test.YtdpllfgnppeneaaDoorG05
import Derived.Test.YtdpllfgnppeneaaDoorG07
import Derived.Test.YtdpllfgnppeneaaDoorG03
import Derived.Test.YtdpllfgnppeneaaDoorPlainOk
namespace Go.Proofs.YtdpllfgnppeneaaDoor
open Go.RowKit
set_option linter.unusedVariables false
set_option linter.unusedSimpArgs false

theorem getD_byte (s : ByteArray) (k : Nat) (h : k < s.size) : s.data.toList.getD k 0 = s[k] := by
  rw [List.getD, List.getElem?_eq_getElem (by rw [← Lib.size_eq]; exact h)]
  rfl
set_option maxHeartbeats 1000000 in
theorem label10_any (s : ByteArray) (w : World) (hs : s.size ≤ 1099511627776) :
    Calls Tryd.prog 54 #[.string s] w fun e w' => e = .returned (.bool (Ok.labelB s.data.toList)) ∧ Below w.heap.size w w' := by
  have HP := Lib.hid (points02_any s w hs)
  go_enter Tryd.func54, Tryd.ntmps54
  go_wp2
  go_loop [3] (fun v => ∃ k : Nat, k ≤ s.size ∧ v = .int .i64 k ∧ Hid (Ok.allTo (fun i => Ok.okByte (s.data.toList.getD i 0)) k = true)) (fun v => s.size - (intOf v).toNat)
  case atStart => exact ⟨0, Nat.zero_le _, rfl, rfl⟩
  case round =>
    obtain ⟨k, hk, rfl, HA⟩ := hrel
    by_cases hlt : k < s.size
    · have HG := Lib.hid (getD_byte s k hlt)
      by_cases h1 : (s[k]'hlt).toNat < 32
      · have HR : Hid (Ok.labelB s.data.toList = false) := by
          show _ = _
          unfold Ok.labelB
          rw [Ok.allTo_false (k := k) (by rw [← Lib.size_eq]; exact hlt) (by rw [HG.out]; simp [Ok.okByte, h1])]
          rfl
        go_wp2
        go_ret
        exact ⟨ret_bool HR.out.symm, Below.refl _ _⟩
      · by_cases h2 : (s[k]'hlt).toNat = 127
        · have HR : Hid (Ok.labelB s.data.toList = false) := by
            show _ = _
            unfold Ok.labelB
            rw [Ok.allTo_false (k := k) (by rw [← Lib.size_eq]; exact hlt) (by rw [HG.out]; simp [Ok.okByte, h2])]
            rfl
          have h3 : (((s[k]'hlt).toNat : Int) == 127) = true := beq_iff_eq.2 (by omega)
          have H2 := Lib.hid h2; clear h2
          go_wp2
          go_ret
          exact ⟨ret_bool HR.out.symm, Below.refl _ _⟩
        · have HN : Hid (Ok.allTo (fun i => Ok.okByte (s.data.toList.getD i 0)) (k + 1) = true) := Ok.allTo_next HA.out (by simp only [HG.out]; simp [Ok.okByte, h1, h2]; try omega)
          have h3 : (((s[k]'hlt).toNat : Int) == 127) = false := beq_eq_false_iff_ne.2 (by omega)
          clear h2
          go_wp2
          go_round
          case rel => exact ⟨k + 1, by omega, by go_num, HN⟩
          case measure => simp [intOf]; omega
    · obtain rfl : k = s.size := by omega
      have HLB : Hid (Ok.labelB s.data.toList = ((Ru.points s.data.toList).isSome && decide (1 ≤ s.size) && decide (s.size ≤ 32))) := by
        show _ = _
        unfold Ok.labelB
        rw [← Lib.size_eq, HA.out]
        rfl
      obtain ⟨o, ho⟩ : ∃ o, Hid (Ru.points s.data.toList = o) := ⟨_, rfl⟩
      rw [ho.out] at HP HLB
      cases o with
      | none =>
        go_wp2_with fail
        refine HP.out.mono ?_
        rintro e w1 ⟨h1, _, hb⟩
        obtain rfl := h1 rfl
        clear h1
        go_wp2
        go_ret
        exact ⟨ret_bool (by rw [HLB.out]; rfl), hb⟩
      | some d =>
        by_cases g1 : 1 ≤ s.size
        · have g1' : (1 : Int) ≤ (s.size : Int) := by omega
          by_cases g2 : s.size ≤ 32
          · go_wp2_with fail
            refine HP.out.mono ?_
            rintro e w1 ⟨_, h1, hb⟩
            obtain ⟨v, rfl, hv⟩ := h1 d rfl
            have HV := Lib.hid hv; have HBB := Lib.hid hb
            clear h1 hv hb
            go_wp2
            go_ret
            exact ⟨ret_bool (by rw [HLB.out]; simp [g1, g2]; try omega), HBB.out⟩
          · have g2' : ¬ (s.size : Int) ≤ 32 := by omega
            go_wp2_with fail
            refine HP.out.mono ?_
            rintro e w1 ⟨_, h1, hb⟩
            obtain ⟨v, rfl, hv⟩ := h1 d rfl
            have HV := Lib.hid hv; have HBB := Lib.hid hb
            clear h1 hv hb
            go_wp2
            go_ret
            exact ⟨ret_bool (by rw [HLB.out]; simp [g2]; try omega), HBB.out⟩
        · have g1' : ¬ (1 : Int) ≤ (s.size : Int) := by omega
          go_wp2_with fail
          refine HP.out.mono ?_
          rintro e w1 ⟨_, h1, hb⟩
          obtain ⟨v, rfl, hv⟩ := h1 d rfl
          have HV := Lib.hid hv; have HBB := Lib.hid hb
          clear h1 hv hb
          go_wp2
          go_ret
          exact ⟨ret_bool (by rw [HLB.out]; simp; try omega), HBB.out⟩
end Go.Proofs.YtdpllfgnppeneaaDoor
namespace Go.Proofs.YtdpllfgnppeneaaDoor
open Go.RowKit
set_option linter.unusedVariables false
set_option linter.unusedSimpArgs false
set_option maxHeartbeats 4000000 in
theorem name10_any (s : ByteArray) (w : World) (hs : s.size ≤ 9223372036854775807) :
    Calls Tryd.prog 55 #[.string s] w fun e w' => e = .returned (.bool (Ok.nameB s.data.toList)) ∧ w = w' := by
  go_enter Tryd.func55, Tryd.ntmps55
  go_wp2
  go_loop [3, 4] (fun v _ => ∃ k : Nat, k ≤ s.size ∧ v = .int .i64 k ∧ Hid (Ok.allTo (fun i => Ok.smallB (s.data.toList.getD i 0) || (!decide (i = 0) && Ok.innerB (s.data.toList.getD i 0))) k = true)) (fun v _ => s.size - (intOf v).toNat)
  case atStart => exact ⟨0, Nat.zero_le _, rfl, rfl⟩
  case round =>
    obtain ⟨k, hk, rfl, HA⟩ := hrel
    by_cases hlt : k < s.size
    · have HG := Lib.hid (getD_byte s k hlt)
      obtain ⟨b, hb⟩ : ∃ b : Nat, Hid ((s[k]'hlt).toNat = b) := ⟨_, rfl⟩
      have hb256 : b < 256 := by rw [← hb.out]; exact UInt8.toNat_lt _
      have zb : ((s[k]'hlt).toNat : Int) = (b : Int) := by rw [hb.out]
      have HFAIL : Hid ((Ok.smallB (s[k]'hlt) || (!decide (k = 0) && Ok.innerB (s[k]'hlt))) = false → Ok.nameB s.data.toList = false) := fun h => by
        unfold Ok.nameB
        rw [Ok.allTo_false (k := k) (by rw [← Lib.size_eq]; exact hlt) (by rw [HG.out]; exact h)]
        rfl
      have HOK : Hid ((Ok.smallB (s[k]'hlt) || (!decide (k = 0) && Ok.innerB (s[k]'hlt))) = true → Ok.allTo (fun i => Ok.smallB (s.data.toList.getD i 0) || (!decide (i = 0) && Ok.innerB (s.data.toList.getD i 0))) (k + 1) = true) := fun h =>
        Ok.allTo_next HA.out (by simp only [HG.out]; exact h)
      clear HG HA
      unfold Ok.smallB Ok.innerB at HFAIL HOK
      rw [hb.out] at HFAIL HOK
      have ways : (97 ≤ b ∧ b ≤ 122) ∨ (b < 97 ∧ k ≠ 0 ∧ b = 45) ∨ (b < 97 ∧ k ≠ 0 ∧ b = 95) ∨ (b < 97 ∧ k ≠ 0 ∧ b ≠ 45 ∧ b ≠ 95 ∧ 48 ≤ b ∧ b ≤ 57) ∨
        ((b < 97 ∧ k = 0) ∨ (122 < b ∧ k = 0) ∨ (b < 97 ∧ k ≠ 0 ∧ b ≠ 45 ∧ b ≠ 95 ∧ b < 48) ∨ (b < 97 ∧ k ≠ 0 ∧ b ≠ 45 ∧ b ≠ 95 ∧ 57 < b) ∨ (122 < b ∧ k ≠ 0)) := by omega
      rcases ways with ⟨g1, g2⟩ | ⟨g1, g2, g3⟩ | ⟨g1, g2, g3⟩ | ⟨g1, g2, g3, g4, g5, g6⟩ | ways
      · have HN := Lib.hid (HOK.out (by simp [g1, g2]))
        clear HFAIL HOK
        go_wp2
        go_round
        case rel => exact ⟨k + 1, by omega, by go_num, HN⟩
        case measure => simp [intOf]; omega
      · have HN := Lib.hid (HOK.out (by simp [g2, g3]))
        have e1 : ((k : Int) == 0) = false := beq_eq_false_iff_ne.2 (by omega)
        have e2 : ((b : Int) != 45) = false := by simp; omega
        have G3 := Lib.hid g3; clear g3
        clear HFAIL HOK g2
        go_wp2
        go_round
        case rel => exact ⟨k + 1, by omega, by go_num, HN⟩
        case measure => simp [intOf]; omega
      · have HN := Lib.hid (HOK.out (by simp [g2, g3]))
        have e1 : ((k : Int) == 0) = false := beq_eq_false_iff_ne.2 (by omega)
        have e2 : ((b : Int) != 45) = true := by rw [bne_iff_ne]; omega
        have e3 : ((b : Int) != 95) = false := by simp; omega
        have G3 := Lib.hid g3; clear g3
        clear HFAIL HOK g2
        go_wp2
        go_round
        case rel => exact ⟨k + 1, by omega, by go_num, HN⟩
        case measure => simp [intOf]; omega
      · have HN := Lib.hid (HOK.out (by simp [g2, g5, g6]))
        have e1 : ((k : Int) == 0) = false := beq_eq_false_iff_ne.2 (by omega)
        have e2 : ((b : Int) != 45) = true := by rw [bne_iff_ne]; omega
        have e3 : ((b : Int) != 95) = true := by rw [bne_iff_ne]; omega
        clear HFAIL HOK g2 g3 g4
        go_wp2
        go_round
        case rel => exact ⟨k + 1, by omega, by go_num, HN⟩
        case measure => simp [intOf]; omega
      · have HN : Hid (Ok.nameB s.data.toList = false) := HFAIL.out (by
          rcases ways with ⟨g1, g2⟩ | ⟨g1, g2⟩ | ⟨g1, g2, g3, g4, g5⟩ | ⟨g1, g2, g3, g4, g5⟩ | ⟨g1, g2⟩ <;> simp <;> omega)
        clear HFAIL HOK
        rcases ways with ⟨g1, g2⟩ | ⟨g1, g2⟩ | ⟨g1, g2, g3, g4, g5⟩ | ⟨g1, g2, g3, g4, g5⟩ | ⟨g1, g2⟩
        · subst g2
          go_wp2
          go_ret
          exact ⟨ret_bool HN.out.symm, rfl⟩
        · subst g2
          have e4 : decide ((b : Int) ≤ 122) = false := decide_eq_false (by omega)
          have e5 : decide ((97 : Int) ≤ (b : Int)) = true := decide_eq_true (by omega)
          go_wp2
          go_ret
          exact ⟨ret_bool HN.out.symm, rfl⟩
        · have e1 : ((k : Int) == 0) = false := beq_eq_false_iff_ne.2 (by omega)
          have e2 : ((b : Int) != 45) = true := by rw [bne_iff_ne]; omega
          have e3 : ((b : Int) != 95) = true := by rw [bne_iff_ne]; omega
          clear g2 g3 g4
          go_wp2
          go_ret
          exact ⟨ret_bool HN.out.symm, rfl⟩
        · have e1 : ((k : Int) == 0) = false := beq_eq_false_iff_ne.2 (by omega)
          have e2 : ((b : Int) != 45) = true := by rw [bne_iff_ne]; omega
          have e3 : ((b : Int) != 95) = true := by rw [bne_iff_ne]; omega
          clear g2 g3 g4
          go_wp2
          go_ret
          exact ⟨ret_bool HN.out.symm, rfl⟩
        · have e1 : ((k : Int) == 0) = false := beq_eq_false_iff_ne.2 (by omega)
          have e2 : ((b : Int) != 45) = true := by rw [bne_iff_ne]; omega
          have e3 : ((b : Int) != 95) = true := by rw [bne_iff_ne]; omega
          have e4 : decide ((b : Int) ≤ 122) = false := decide_eq_false (by omega)
          have e5 : decide ((97 : Int) ≤ (b : Int)) = true := decide_eq_true (by omega)
          have e6 : decide ((b : Int) < 48) = false := decide_eq_false (by omega)
          have e7 : decide ((57 : Int) < (b : Int)) = true := decide_eq_true (by omega)
          clear g2
          go_wp2
          go_ret
          exact ⟨ret_bool HN.out.symm, rfl⟩
    · obtain rfl : k = s.size := by omega
      have HLB : Hid (Ok.nameB s.data.toList = (decide (1 ≤ s.size) && decide (s.size ≤ 32))) := by
        show _ = _
        unfold Ok.nameB
        rw [← Lib.size_eq, HA.out]
        rfl
      by_cases g1 : 1 ≤ s.size
      · have g1' : (1 : Int) ≤ (s.size : Int) := by omega
        go_wp2
        go_ret
        exact ⟨ret_bool (by rw [HLB.out]; simp [g1]; try omega), rfl⟩
      · have g1' : ¬ (1 : Int) ≤ (s.size : Int) := by omega
        go_wp2
        go_ret
        exact ⟨ret_bool (by rw [HLB.out]; simp; try omega), rfl⟩

set_option maxHeartbeats 1000000 in
theorem label17_any (s : ByteArray) (w : World) (hs : s.size ≤ 1099511627776) :
    Calls Tryd.prog 57 #[.string s] w fun e w' => e = .returned (.bool (Ok.label17B s.data.toList)) ∧ Below w.heap.size w w' := by
  have HP := Lib.hid (label10_any s w hs)
  go_enter Tryd.func57, Tryd.ntmps57
  go_wp2
  go_loop [3] (fun v => ∃ k : Nat, k ≤ s.size ∧ v = .int .i64 k ∧ Hid (Ok.allTo (fun i => !decide ((s.data.toList.getD i 0).toNat = 32)) k = true)) (fun v => s.size - (intOf v).toNat)
  case atStart => exact ⟨0, Nat.zero_le _, rfl, rfl⟩
  case round =>
    obtain ⟨k, hk, rfl, HA⟩ := hrel
    by_cases hlt : k < s.size
    · have HG := Lib.hid (getD_byte s k hlt)
      by_cases h1 : (s[k]'hlt).toNat = 32
      · have HR : Hid (Ok.label17B s.data.toList = false) := by
          show _ = _
          unfold Ok.label17B
          rw [Ok.allTo_false (k := k) (by rw [← Lib.size_eq]; exact hlt) (by simp only [HG.out]; simp [h1])]
          rfl
        have h3 : (((s[k]'hlt).toNat : Int) == 32) = true := beq_iff_eq.2 (by omega)
        have H1 := Lib.hid h1; clear h1
        go_wp2
        go_ret
        exact ⟨ret_bool HR.out.symm, Below.refl _ _⟩
      · have HN : Hid (Ok.allTo (fun i => !decide ((s.data.toList.getD i 0).toNat = 32)) (k + 1) = true) := Ok.allTo_next HA.out (by simp only [HG.out]; simp [h1])
        have h3 : (((s[k]'hlt).toNat : Int) == 32) = false := beq_eq_false_iff_ne.2 (by omega)
        clear h1
        go_wp2
        go_round
        case rel => exact ⟨k + 1, by omega, by go_num, HN⟩
        case measure => simp [intOf]; omega
    · obtain rfl : k = s.size := by omega
      have HLB : Hid (Ok.label17B s.data.toList = Ok.labelB s.data.toList) := by
        show _ = _
        unfold Ok.label17B
        rw [← Lib.size_eq, HA.out]
        rfl
      go_wp2_with fail
      refine HP.out.mono ?_
      rintro e w1 ⟨rfl, hb⟩
      go_wp2
      go_ret
      exact ⟨ret_bool HLB.out.symm, hb⟩

/-- Does the list hold the string? -/
def hasB (l : List ByteArray) (s : ByteArray) : Bool := l.any fun x => decide (x = s)
theorem hasB_iff {l : List ByteArray} {s : ByteArray} : hasB l s = true ↔ s ∈ l := by simp [hasB]
theorem hasB_false {l : List ByteArray} {s : ByteArray} (h : s ∉ l) : hasB l s = false := by
  cases hh : hasB l s with
  | false => rfl
  | true => exact absurd (hasB_iff.1 hh) h
set_option maxHeartbeats 400000 in
theorem has17_any (A : Option Addr) (n c : Nat) (l : List ByteArray) (s : ByteArray) (w : World) (h : SR w w.heap.size A n l) (hn : n ≤ 9223372036854775807) :
    Calls Tryd.prog 58 #[.slice A n c, .string s] w fun e w' => e = .returned (.bool (hasB l s)) ∧ w = w' := by
  have HX := Lib.hid h.len
  go_enter Tryd.func58, Tryd.ntmps58
  go_wp2
  go_loop [5] (fun i => ∃ k : Nat, k ≤ n ∧ i = .int .i64 k ∧ Hid (s ∉ l.take k)) (fun i => n - (intOf i).toNat)
  case atStart => exact ⟨0, Nat.zero_le _, rfl, (show s ∉ l.take 0 by simp)⟩
  case round =>
    obtain ⟨k, hk, rfl, hpre⟩ := hrel
    by_cases hlt : k < n
    · obtain ⟨ad, x, rfl, _, hx, hcx⟩ := h.at_ hlt
      have HXK := Lib.hid hx; clear hx
      have hkn : (k : Int) < (n : Int) := by omega
      by_cases hxy : x = s
      · subst hxy
        have HRES : Hid (hasB l x = true) := hasB_iff.2 (List.mem_of_getElem? HXK.out)
        go_wp2
        go_ret
        exact ⟨ret_bool HRES.out.symm, rfl⟩
      · have hne : (x.toList == s.toList) = false := by
          rw [Lib.toList_data, Lib.toList_data]
          refine beq_eq_false_iff_ne.2 fun e => hxy ?_
          cases x with | mk d => cases s with | mk e' => cases d with | mk p => cases e' with | mk q => simp at e; rw [e]
        have HN : Hid (s ∉ l.take (k + 1)) := by
          show s ∉ l.take (k + 1)
          rw [List.take_add_one, HXK.out]
          simp
          exact ⟨hpre.out, fun e => hxy e.symm⟩
        go_wp2
        go_round
        case rel => exact ⟨k + 1, by omega, by go_num, HN⟩
        case measure => simp [intOf]; omega
    · obtain rfl : n = k := by omega
      have HRES : Hid (hasB l s = false) := hasB_false (by have := hpre.out; rw [List.take_of_length_le (by rw [HX.out]; exact Nat.le_refl _)] at this; exact this)
      go_wp2
      go_ret
      exact ⟨ret_bool HRES.out.symm, rfl⟩
end Go.Proofs.YtdpllfgnppeneaaDoor
