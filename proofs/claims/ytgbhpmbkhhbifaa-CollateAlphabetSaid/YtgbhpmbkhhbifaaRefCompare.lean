import Derived.Test.YtgbhpmbkhhbifaaCompare
import Derived.Laws.Cover1
namespace Go.Proofs.Ytgbhpmbkhhbifaa
open Go.RowKit Col
set_option linter.unusedVariables false
set_option linter.unusedSimpArgs false

theorem bytesLess_cmp : ∀ (x y : List UInt8), Op.bytesLess x y = decide (cmpI (bytesI x) (bytesI y) = -1)
  | [], [] => by simp [Op.bytesLess, bytesI, cmpI]
  | [], _ :: _ => by simp [Op.bytesLess, bytesI, cmpI]
  | _ :: _, [] => by simp [Op.bytesLess, bytesI, cmpI]
  | a :: x, b :: y => by
    have ih := bytesLess_cmp x y
    have e : cmpI (bytesI (a :: x)) (bytesI (b :: y)) = or2 (cmpN (a.toNat : Int) (b.toNat : Int)) (cmpI (bytesI x) (bytesI y)) := rfl
    rw [e, Op.bytesLess, ih]
    by_cases h1 : a < b
    · have h2 : (a.toNat : Int) < (b.toNat : Int) := by have := UInt8.lt_iff_toNat_lt.1 h1; omega
      simp [h1, cmpN, h2, or2]
    · have h2 : ¬ (a.toNat : Int) < (b.toNat : Int) := fun h => h1 (UInt8.lt_iff_toNat_lt.2 (by omega))
      by_cases h3 : a = b
      · subst h3
        simp [cmpN, or2]
      · have h4 : (b.toNat : Int) < (a.toNat : Int) := by
          have : a.toNat ≠ b.toNat := fun h => h3 (UInt8.toNat_inj.1 h)
          omega
        simp [h1, h3, cmpN, h2, h4, or2]
theorem bytes_three (x y : List UInt8) : (cmpI (bytesI x) (bytesI y) = -1 ∧ Op.bytesLess x y = true ∧ (x == y) = false) ∨ (cmpI (bytesI x) (bytesI y) = 0 ∧ Op.bytesLess x y = false ∧ (x == y) = true) ∨
    (cmpI (bytesI x) (bytesI y) = 1 ∧ Op.bytesLess x y = false ∧ (x == y) = false) := by
  have h := bytesLess_cmp x y
  have hne : cmpI (bytesI x) (bytesI y) ≠ 0 → (x == y) = false := fun h0 => beq_eq_false_iff_ne.2 fun e => h0 (by rw [e]; exact cmpI_is.self _)
  rcases cmpI_is.range (bytesI x) (bytesI y) with e | e | e
  · exact .inl ⟨e, by rw [h, e]; rfl, hne (by omega)⟩
  · exact .inr (.inl ⟨e, by rw [h, e]; rfl, beq_iff_eq.2 (bytesI_inj (cmpI_zero _ _ e))⟩)
  · exact .inr (.inr ⟨e, by rw [h, e]; rfl, hne (by omega)⟩)

set_option maxHeartbeats 1000000 in
theorem refCompare_any (nm : ByteArray) (UA A : Option Addr) (un uc n c : Nat) (L : List (List ByteArray)) (s t : ByteArray) (w : World) (B : Nat)
    (hL : RowsR w B A n L) (hB : B ≤ w.heap.size) (hz : SizedL L) (hs : s.size ≤ 1099511627776) (ht : t.size ≤ 1099511627776) :
    Calls Try.prog 19 #[.agg #[.string nm, .slice UA un uc, .slice A n c], .string s, .string t] w fun e w' => e = .returned (.int .i64 (cmpS L s.data.toList t.data.toList)) ∧ Below w.heap.size w w' := by
  have hL1 : RowsR (w.alloc (.cells #[Value.string nm, Value.slice UA un uc, Value.slice A n c] 28)) B A n L := hL.below ((Below.refl B w).alloc hB _)
  have hbe : Below w.heap.size w (w.alloc (.cells #[Value.string nm, Value.slice UA un uc, Value.slice A n c] 28)) := (Below.refl _ w).alloc (Nat.le_refl _) _
  have hbx : ∀ w1, Below (w.heap.size + 1) (w.alloc (.cells #[Value.string nm, Value.slice UA un uc, Value.slice A n c] 28)) w1 →
      w1.cell? ⟨w.heap.size, 0, none⟩ = some (.string nm) ∧ w1.cell? ⟨w.heap.size, 1, none⟩ = some (.slice UA un uc) ∧ w1.cell? ⟨w.heap.size, 2, none⟩ = some (.slice A n c) := fun w1 hb1 =>
    ⟨(hb1.cell (by simp)).trans (by rw [World.cell?_alloc_at _ _ _ _ rfl]; rfl), (hb1.cell (by simp)).trans (by rw [World.cell?_alloc_at _ _ _ _ rfl]; rfl), (hb1.cell (by simp)).trans (by rw [World.cell?_alloc_at _ _ _ _ rfl]; rfl)⟩
  have hl1 := Col.letters_length L _ s.data.toList (Nat.le_refl _)
  have hl2 := Col.letters_length L _ t.data.toList (Nat.le_refl _)
  rw [← Lib.size_eq] at hl1 hl2
  have LS := Lib.hid (refLetters_any nm UA A un uc n c L s (w.alloc (.cells #[Value.string nm, Value.slice UA un uc, Value.slice A n c] 28)) B hL1 (by simp; omega) hz hs)
  have HBX := Lib.hid hbx; clear hbx
  have HL1 := Lib.hid hL1; clear hL1
  go_enter Try.func19, Try.ntmps19
  go_wp2_with fail
  refine LS.out.mono ?_
  rintro e w1 ⟨va, vb, rfl, hva, hvb, hb1⟩
  rw [prim_eq] at hva
  rw [secd_eq] at hvb
  obtain ⟨A1, c1, rfl, _, _, ra⟩ := own_form hva
  obtain ⟨A2, c2, rfl, _, _, rb⟩ := own_form hvb
  have HRA := Lib.hid ra; have HRB := Lib.hid rb
  have HB1 : Hid (Below (w.heap.size + 1) (w.alloc (.cells #[Value.string nm, Value.slice UA un uc, Value.slice A n c] 28)) w1) := hb1.mono (by simp)
  obtain ⟨k0, k1, k2⟩ := HBX.out w1 HB1.out
  have LT := Lib.hid (refLetters_any nm UA A un uc n c L t w1 B (HL1.out.below (HB1.out.mono (by omega))) (by have := HB1.out.size; simp at this; omega) hz ht)
  clear hva hvb ra rb hb1 LS
  go_wp2_with fail
  refine LT.out.mono ?_
  rintro e w2 ⟨va, vb, rfl, hva, hvb, hb2⟩
  rw [prim_eq] at hva
  rw [secd_eq] at hvb
  obtain ⟨A3, c3, rfl, _, _, ra⟩ := own_form hva
  obtain ⟨A4, c4, rfl, _, _, rb⟩ := own_form hvb
  have HRC := Lib.hid ra; have HRD := Lib.hid rb
  have HB2 : Hid (Below w1.heap.size w1 w2) := hb2
  clear hva hvb ra rb hb2 LT k0 k1 k2
  obtain ⟨r1, hr1⟩ : ∃ r, Hid (cmpI (primI L s.data.toList) (primI L t.data.toList) = r) := ⟨_, rfl⟩
  obtain ⟨r2, hr2⟩ : ∃ r, Hid (cmpI (secI L s.data.toList) (secI L t.data.toList) = r) := ⟨_, rfl⟩
  have o1 := order_ints _ _ _ _ c1 c3 (primI L s.data.toList) (primI L t.data.toList) w2 (HRA.out.on HB2.out) HRC.out (by omega) (by omega)
  rw [hr1.out] at o1
  have O1 := Lib.hid o1; clear o1
  have hfin : Below w.heap.size w w2 := by
    have s1 := HB1.out.size
    simp at s1
    exact (hbe.trans (HB1.out.mono (by omega))).trans (HB2.out.mono (by omega))
  have HFIN := Lib.hid hfin; clear hfin
  by_cases h1 : r1 = 0
  · subst h1
    go_wp2_with fail
    refine O1.out.mono ?_
    rintro e w3 ⟨rfl, hk⟩
    have HB3 : Hid (Below w2.heap.size w2 w3) := by obtain ⟨k, rfl⟩ := hk; exact below_drewN (Below.refl _ _) _
    clear hk
    have o2 := order_ints _ _ _ _ c2 c4 (secI L s.data.toList) (secI L t.data.toList) w3 ((HRB.out.on HB2.out).on HB3.out) (HRD.out.on HB3.out) (by omega) (by omega)
    rw [hr2.out] at o2
    have O2 := Lib.hid o2; clear o2
    have hfin3 : Below w.heap.size w w3 := HFIN.out.trans (HB3.out.mono HFIN.out.size)
    have HFIN3 := Lib.hid hfin3; clear hfin3
    by_cases h2 : r2 = 0
    · subst h2
      rcases bytes_three s.data.toList t.data.toList with ⟨hv, hb1, hb2⟩ | ⟨hv, hb1, hb2⟩ | ⟨hv, hb1, hb2⟩
      all_goals
        have HV := Lib.hid hv; clear hv
        rw [← Lib.toList_data, ← Lib.toList_data] at hb1 hb2
        go_wp2_with fail
        refine O2.out.mono ?_
        rintro e w4 ⟨rfl, hk⟩
        have HB4 : Hid (Below w3.heap.size w3 w4) := by obtain ⟨k, rfl⟩ := hk; exact below_drewN (Below.refl _ _) _
        clear hk
        go_wp2
        go_ret
        refine ⟨ret_i64 ?_, HFIN3.out.trans (HB4.out.mono HFIN3.out.size)⟩
        simp only [cmpS, hr1.out, hr2.out, HV.out, or2]
        rfl
    · have hne : (r2 != 0) = true := by rw [bne_iff_ne]; exact h2
      go_wp2_with fail
      refine O2.out.mono ?_
      rintro e w4 ⟨rfl, hk⟩
      have HB4 : Hid (Below w3.heap.size w3 w4) := by obtain ⟨k, rfl⟩ := hk; exact below_drewN (Below.refl _ _) _
      clear hk
      go_wp2
      go_ret
      refine ⟨ret_i64 ?_, HFIN3.out.trans (HB4.out.mono HFIN3.out.size)⟩
      simp only [cmpS, hr1.out, hr2.out, or2]
      rw [if_pos trivial, if_neg h2]
  · have hne : (r1 != 0) = true := by rw [bne_iff_ne]; exact h1
    go_wp2_with fail
    refine O1.out.mono ?_
    rintro e w3 ⟨rfl, hk⟩
    have HB3 : Hid (Below w2.heap.size w2 w3) := by obtain ⟨k, rfl⟩ := hk; exact below_drewN (Below.refl _ _) _
    clear hk
    go_wp2
    go_ret
    refine ⟨ret_i64 ?_, HFIN.out.trans (HB3.out.mono HFIN.out.size)⟩
    simp only [cmpS, hr1.out, or2]
    rw [if_neg h1]
end Go.Proofs.Ytgbhpmbkhhbifaa
