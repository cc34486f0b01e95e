/-
  RunesBack, walked: it returns true, and nothing that was there has changed.
-/
import Derived.Test.YtplchlkdijjamaaDoorLawA
namespace Go.Proofs.YtplchlkdijjamaaDoor
open Go.RowKit Ru
set_option linter.unusedVariables false
set_option linter.unusedSimpArgs false

theorem nat_of_scalar {x : Int} (h : scalarB x = true) : ((x.toNat : Nat) : Int) = x := by
  unfold scalarB at h
  simp at h
  omega
theorem ofI_some {l : List Int} {b : List UInt8} (h : ofI l = some b) : ∃ d : List Nat, l = d.map (fun (p : Nat) => (p : Int)) ∧ Sc d ∧ b = Ru.encS d := by
  have ha : l.all scalarB = true := by
    unfold ofI at h
    split at h
    · assumption
    · cases h
  rw [List.all_eq_true] at ha
  have e : l = (l.map Int.toNat).map (fun (p : Nat) => (p : Int)) := by
    rw [List.map_map]
    conv => lhs; rw [← List.map_id l]
    exact List.map_congr_left fun x hx => (nat_of_scalar (ha x hx)).symm
  have hs : Sc (l.map Int.toNat) := fun p hp => by
    obtain ⟨x, hx, rfl⟩ := List.mem_map.1 hp
    rw [nat_of_scalar (ha x hx)]
    exact ha x hx
  refine ⟨_, e, hs, ?_⟩
  have h2 := ofI_nat hs
  rw [← e, h] at h2
  exact Option.some.inj h2
theorem of_none (w : World) (n c : Nat) (A : Option Addr) (h : IR w w.heap.size A n []) : Calls Tryd.prog 17 #[.slice A n c] w fun e w' => e = .returned (.tuple #[.string ⟨#[]⟩, .bool true]) ∧ Below w.heap.size w w' :=
  mono_eq (of_any A n c [] w h (by have := h.len; simp at this; omega)) rfl

set_option maxHeartbeats 4000000 in
set_option maxRecDepth 100000 in
theorem back_law (A : Option Addr) (n c : Nat) (l : List Int) (s : ByteArray) (w : World) (hl : IR w w.heap.size A n l) (hn : n ≤ 9223372036854775807) (hT : Tabs w) :
    Calls Tryd.prog 9 #[.slice A n c, .string s] w fun e w' => e = .returned (.bool true) ∧ Below w.heap.size w w' := by
  have HT := Lib.hid hT
  have HL := Lib.hid hl
  clear hT hl
  by_cases h1 : n ≤ 1000
  · have hsz : decide ((1000 : Int) < (n : Int)) = false := decide_eq_false (by omega)
    by_cases hs : s.size ≤ 2000
    · have HF := Lib.hid fun W => few_yes hs (show (⟨#[]⟩ : ByteArray).size ≤ 2000 by decide) W
      have HP := Lib.hid fun W (hb : Below w.heap.size w W) => points_any s W (by omega) (HT.out.on hb)
      have HO := Lib.hid (of_any A n c l w HL.out (by omega))
      have hln := HL.out.len
      obtain ⟨o, ho⟩ : ∃ o, points s.data.toList = o := ⟨_, rfl⟩
      have HQ : Hid (points s.data.toList = o) := ho
      rw [ho] at HP
      clear ho
      obtain ⟨ol, hol⟩ : ∃ ol, ofI l = ol := ⟨_, rfl⟩
      have HOL : Hid (ofI l = ol) := hol
      rw [hol] at HO
      clear hol
      cases ol with
      | none =>
        have HP2 := Lib.hid fun W (hb : Below w.heap.size w W) => points_any ⟨#[]⟩ W (by decide) (HT.out.on hb)
        rw [show points (⟨#[]⟩ : ByteArray).data.toList = some [] by decide +kernel] at HP2
        cases o with
        | none =>
          go_enter Tryd.func9, Tryd.ntmps9
          go_wp2_with fail
          refine (HF.out _).mono ?_
          rintro e w0 ⟨rfl, rfl⟩
          go_wp2_with fail
          refine (HO.out).mono ?_
          rintro e w1 ⟨rfl, hb⟩
          have HB1 : Hid (Below w.heap.size w w1) := hb
          clear hb
          unfold ofV
          go_wp2_with fail
          refine (HP2.out _ HB1.out).mono ?_
          intro e w2 hpp
          obtain ⟨A1, n1, c1, rfl, hr1, hn1, hb⟩ := hpp.val
          have R1 := Lib.hid hr1
          clear hpp hr1
          have HB2 : Hid (Below w.heap.size w w2) := HB1.out.trans (hb.mono HB1.out.size)
          clear hb
          go_wp2_with fail
          refine (HP.out _ HB2.out).mono ?_
          intro e w3 hpp
          obtain ⟨A2, n2, c2, rfl, hr2, hn2, hb⟩ := hpp.val
          have R2 := Lib.hid hr2
          clear hpp hr2
          have HB3 : Hid (Below w.heap.size w w3) := HB2.out.trans (hb.mono HB2.out.size)
          clear hb
          go_wp2_with fail
          refine (of_none w3 n2 c2 A2 R2.out).mono ?_
          rintro e w4 ⟨rfl, hb⟩
          have HB4 : Hid (Below w.heap.size w w4) := HB3.out.trans (hb.mono HB3.out.size)
          clear hb
          go_wp2_with fail
          refine (awake_any _ (HT.out.on HB4.out)).mono ?_
          rintro e w5 ⟨rfl, hb⟩
          have HB5 : Hid (Below w.heap.size w w5) := HB4.out.trans (hb.mono HB4.out.size)
          clear hb
          go_wp2
          go_ret
          exact ⟨rfl, HB5.out⟩
        | some d =>
          go_enter Tryd.func9, Tryd.ntmps9
          go_wp2_with fail
          refine (HF.out _).mono ?_
          rintro e w0 ⟨rfl, rfl⟩
          go_wp2_with fail
          refine (HO.out).mono ?_
          rintro e w1 ⟨rfl, hb⟩
          have HB1 : Hid (Below w.heap.size w w1) := hb
          clear hb
          unfold ofV
          go_wp2_with fail
          refine (HP2.out _ HB1.out).mono ?_
          intro e w2 hpp
          obtain ⟨A1, n1, c1, rfl, hr1, hn1, hb⟩ := hpp.val
          have R1 := Lib.hid hr1
          clear hpp hr1
          have HB2 : Hid (Below w.heap.size w w2) := HB1.out.trans (hb.mono HB1.out.size)
          clear hb
          go_wp2_with fail
          refine (HP.out _ HB2.out).mono ?_
          intro e w3 hpp
          obtain ⟨A2, n2, c2, rfl, hr2, hn2, hb⟩ := hpp.val
          have R2 := Lib.hid hr2
          clear hpp hr2
          have HB3 : Hid (Below w.heap.size w w3) := HB2.out.trans (hb.mono HB2.out.size)
          clear hb
          have hd2 : n2 ≤ 2000 := by
            have h1 := R2.out.len
            have h2 := points_length _ _ _ (Nat.le_refl _) HQ.out
            rw [← Lib.size_eq] at h2
            simp [intsO] at h1
            omega
          have hst : ofV (ofI (intsO (some d))) = .tuple #[.string s, .bool true] := by
            show ofV (ofI (d.map fun (p : Nat) => (p : Int))) = _
            rw [ofI_nat (points_sc HQ.out), encS_points HQ.out]
            show Value.tuple #[.string (strL s.data.toList), .bool true] = _
            rw [← strL_of (s := s) rfl]
          go_wp2_with fail
          refine (mono_eq (of_any A2 n2 c2 _ w3 R2.out (by omega)) hst).mono ?_
          rintro e w4 ⟨rfl, hb⟩
          have HB4 : Hid (Below w.heap.size w w4) := HB3.out.trans (hb.mono HB3.out.size)
          clear hb
          go_wp2_with fail
          refine (awake_any _ (HT.out.on HB4.out)).mono ?_
          rintro e w5 ⟨rfl, hb⟩
          have HB5 : Hid (Below w.heap.size w w5) := HB4.out.trans (hb.mono HB4.out.size)
          clear hb
          go_wp2
          go_ret
          exact ⟨rfl, HB5.out⟩
      | some b =>
        obtain ⟨dl, hdl, hsc, hb⟩ := ofI_some HOL.out
        subst hb
        have hbl : (strL (Ru.encS dl)).size ≤ 4 * n := by
          rw [strL_size, ← hln, hdl, List.length_map]
          exact encS_le dl
        have HP2 := Lib.hid fun W (hb : Below w.heap.size w W) => points_any (strL (Ru.encS dl)) W (by omega) (HT.out.on hb)
        rw [strL_data, points_encS hsc] at HP2
        have HDL : Hid (intsO (some dl) = l) := hdl.symm
        clear hdl
        cases o with
        | none =>
          go_enter Tryd.func9, Tryd.ntmps9
          go_wp2_with fail
          refine (HF.out _).mono ?_
          rintro e w0 ⟨rfl, rfl⟩
          go_wp2_with fail
          refine (HO.out).mono ?_
          rintro e w1 ⟨rfl, hb⟩
          have HB1 : Hid (Below w.heap.size w w1) := hb
          clear hb
          unfold ofV
          go_wp2_with fail
          refine (HP2.out _ HB1.out).mono ?_
          intro e w2 hpp
          obtain ⟨A1, n1, c1, rfl, hr1, hn1, hb⟩ := hpp.val
          have R1 := Lib.hid hr1
          clear hpp hr1
          have HB2 : Hid (Below w.heap.size w w2) := HB1.out.trans (hb.mono HB1.out.size)
          clear hb
          have HS := Lib.hid (same_ints A1 A n1 n c1 c _ _ w2 R1.out (IR.on HL.out HB2.out) hn1 hn)
          rw [HDL.out, beq_self_eq_true] at HS
          go_wp2_with fail
          refine (HS.out).mono ?_
          rintro e w3 ⟨rfl, hk⟩
          have hb : Below w2.heap.size w2 w3 := by obtain ⟨k, rfl⟩ := hk; exact below_drewN (Below.refl _ _) _
          clear hk
          have HB3 : Hid (Below w.heap.size w w3) := HB2.out.trans (hb.mono HB2.out.size)
          clear hb
          go_wp2_with fail
          refine (HP.out _ HB3.out).mono ?_
          intro e w4 hpp
          obtain ⟨A2, n2, c2, rfl, hr2, hn2, hb⟩ := hpp.val
          have R2 := Lib.hid hr2
          clear hpp hr2
          have HB4 : Hid (Below w.heap.size w w4) := HB3.out.trans (hb.mono HB3.out.size)
          clear hb
          go_wp2_with fail
          refine (of_none w4 n2 c2 A2 R2.out).mono ?_
          rintro e w5 ⟨rfl, hb⟩
          have HB5 : Hid (Below w.heap.size w w5) := HB4.out.trans (hb.mono HB4.out.size)
          clear hb
          go_wp2_with fail
          refine (awake_any _ (HT.out.on HB5.out)).mono ?_
          rintro e w6 ⟨rfl, hb⟩
          have HB6 : Hid (Below w.heap.size w w6) := HB5.out.trans (hb.mono HB5.out.size)
          clear hb
          go_wp2
          go_ret
          exact ⟨rfl, HB6.out⟩
        | some d =>
          go_enter Tryd.func9, Tryd.ntmps9
          go_wp2_with fail
          refine (HF.out _).mono ?_
          rintro e w0 ⟨rfl, rfl⟩
          go_wp2_with fail
          refine (HO.out).mono ?_
          rintro e w1 ⟨rfl, hb⟩
          have HB1 : Hid (Below w.heap.size w w1) := hb
          clear hb
          unfold ofV
          go_wp2_with fail
          refine (HP2.out _ HB1.out).mono ?_
          intro e w2 hpp
          obtain ⟨A1, n1, c1, rfl, hr1, hn1, hb⟩ := hpp.val
          have R1 := Lib.hid hr1
          clear hpp hr1
          have HB2 : Hid (Below w.heap.size w w2) := HB1.out.trans (hb.mono HB1.out.size)
          clear hb
          have HS := Lib.hid (same_ints A1 A n1 n c1 c _ _ w2 R1.out (IR.on HL.out HB2.out) hn1 hn)
          rw [HDL.out, beq_self_eq_true] at HS
          go_wp2_with fail
          refine (HS.out).mono ?_
          rintro e w3 ⟨rfl, hk⟩
          have hb : Below w2.heap.size w2 w3 := by obtain ⟨k, rfl⟩ := hk; exact below_drewN (Below.refl _ _) _
          clear hk
          have HB3 : Hid (Below w.heap.size w w3) := HB2.out.trans (hb.mono HB2.out.size)
          clear hb
          go_wp2_with fail
          refine (HP.out _ HB3.out).mono ?_
          intro e w4 hpp
          obtain ⟨A2, n2, c2, rfl, hr2, hn2, hb⟩ := hpp.val
          have R2 := Lib.hid hr2
          clear hpp hr2
          have HB4 : Hid (Below w.heap.size w w4) := HB3.out.trans (hb.mono HB3.out.size)
          clear hb
          have hd2 : n2 ≤ 2000 := by
            have h1 := R2.out.len
            have h2 := points_length _ _ _ (Nat.le_refl _) HQ.out
            rw [← Lib.size_eq] at h2
            simp [intsO] at h1
            omega
          have hst : ofV (ofI (intsO (some d))) = .tuple #[.string s, .bool true] := by
            show ofV (ofI (d.map fun (p : Nat) => (p : Int))) = _
            rw [ofI_nat (points_sc HQ.out), encS_points HQ.out]
            show Value.tuple #[.string (strL s.data.toList), .bool true] = _
            rw [← strL_of (s := s) rfl]
          go_wp2_with fail
          refine (mono_eq (of_any A2 n2 c2 _ w4 R2.out (by omega)) hst).mono ?_
          rintro e w5 ⟨rfl, hb⟩
          have HB5 : Hid (Below w.heap.size w w5) := HB4.out.trans (hb.mono HB4.out.size)
          clear hb
          go_wp2_with fail
          refine (awake_any _ (HT.out.on HB5.out)).mono ?_
          rintro e w6 ⟨rfl, hb⟩
          have HB6 : Hid (Below w.heap.size w w6) := HB5.out.trans (hb.mono HB5.out.size)
          clear hb
          go_wp2
          go_ret
          exact ⟨rfl, HB6.out⟩
    · have HF := Lib.hid fun W => few_no (s := s) (t := ⟨#[]⟩) (by omega) W
      go_enter Tryd.func9, Tryd.ntmps9
      go_wp2_with fail
      refine (HF.out _).mono ?_
      rintro e w1 ⟨rfl, rfl⟩
      go_wp2_with fail
      refine (awake_any _ HT.out).mono ?_
      rintro e w4 ⟨rfl, hb4⟩
      go_wp2
      go_ret
      exact ⟨rfl, hb4⟩
  · have hsz : decide ((1000 : Int) < (n : Int)) = true := decide_eq_true (by omega)
    go_enter Tryd.func9, Tryd.ntmps9
    go_wp2_with fail
    refine (awake_any _ HT.out).mono ?_
    rintro e w4 ⟨rfl, hb4⟩
    go_wp2
    go_ret
    exact ⟨rfl, hb4⟩
end Go.Proofs.YtplchlkdijjamaaDoor
