import Derived.Test.YtgbhpmbkhhbifaaSect
import Derived.Test.YtgbhpmbkhhbifaaCmp
import Derived.Lib.ConvBytes
import Derived.Outline
namespace Go.Proofs.Ytgbhpmbkhhbifaa
open Go.RowKit Col
set_option linter.unusedVariables false
set_option linter.unusedSimpArgs false

theorem prim_eq (L : List (List ByteArray)) (s : List UInt8) : prim (letters L s) = (primI L s).map (.int .i64) := by simp [prim, primI, List.map_map, Function.comp_def]
theorem secd_eq (L : List (List ByteArray)) (s : List UInt8) : secd (letters L s) = (secI L s).map (.int .i64) := by simp [secd, secI, List.map_map, Function.comp_def]
theorem Reads.on {w w' : World} {size n : Nat} {A : Option Addr} {xs : List Value} (h : Reads w w.heap.size size A n xs) (hb : Below w.heap.size w w') : Reads w' w'.heap.size size A n xs := (h.below hb).more hb.size
theorem below_bytes (w : World) (e : TypeId) (s : ByteArray) : Below w.heap.size w (Lib.bytesWorld w e s) :=
  ⟨rfl, rfl, rfl, by rw [Lib.bytesWorld_size]; omega, fun k hk => Lib.bytesWorld_at_old w e s k hk⟩
theorem reads_bytes (w : World) (e : TypeId) (s : ByteArray) : Reads (Lib.bytesWorld w e s) (Lib.bytesWorld w e s).heap.size 1 (some ⟨w.heap.size, 0, none⟩) s.size ((bytesI s.data.toList).map (.int .u8)) := by
  refine ⟨by simp [bytesI, ← Lib.size_eq], fun _ => ⟨_, rfl, by rw [Lib.bytesWorld_size]; simp, fun j u hu => ?_⟩⟩
  have hj : j < s.size := by
    have := (List.getElem?_eq_some_iff.1 hu).1
    simpa [bytesI, ← Lib.size_eq] using this
  have hc := Lib.bytesWorld_cell w e s j hj
  have e1 : (⟨w.heap.size, 0, none⟩ : Addr).add j = ⟨w.heap.size, j, none⟩ := by
    unfold Addr.add
    split
    · rename_i h; simp [h]
    · simp
  rw [e1, hc]
  simp [bytesI] at hu
  obtain ⟨b, hb, rfl⟩ := hu
  simp [List.getD, hb]

set_option maxHeartbeats 1000000 in
theorem compare_any (nm : ByteArray) (UA A : Option Addr) (un uc n c : Nat) (L : List (List ByteArray)) (s t : ByteArray) (w : World) (B : Nat)
    (hL : RowsR w B A n L) (hB : B ≤ w.heap.size) (hz : SizedL L) (hs : s.size ≤ 1099511627776) (ht : t.size ≤ 1099511627776) :
    Calls Try.prog 18 #[.agg #[.string nm, .slice UA un uc, .slice A n c], .string s, .string t] w fun e w' => e = .returned (.int .i64 (cmpS L s.data.toList t.data.toList)) ∧ Below w.heap.size w w' := by
  have hL1 : RowsR (w.alloc (.cells #[Value.string nm, Value.slice UA un uc, Value.slice A n c] 28)) B A n L := hL.below ((Below.refl B w).alloc hB _)
  have hbe : Below w.heap.size w (w.alloc (.cells #[Value.string nm, Value.slice UA un uc, Value.slice A n c] 28)) := (Below.refl _ w).alloc (Nat.le_refl _) _
  have hbx : ∀ w1, Below (w.heap.size + 1) (w.alloc (.cells #[Value.string nm, Value.slice UA un uc, Value.slice A n c] 28)) w1 →
      w1.cell? ⟨w.heap.size, 0, none⟩ = some (.string nm) ∧ w1.cell? ⟨w.heap.size, 1, none⟩ = some (.slice UA un uc) ∧ w1.cell? ⟨w.heap.size, 2, none⟩ = some (.slice A n c) := fun w1 hb1 =>
    ⟨(hb1.cell (by simp)).trans (by rw [World.cell?_alloc_at _ _ _ _ rfl]; rfl), (hb1.cell (by simp)).trans (by rw [World.cell?_alloc_at _ _ _ _ rfl]; rfl), (hb1.cell (by simp)).trans (by rw [World.cell?_alloc_at _ _ _ _ rfl]; rfl)⟩
  have hl1 := Col.letters_length L _ s.data.toList (Nat.le_refl _)
  have hl2 := Col.letters_length L _ t.data.toList (Nat.le_refl _)
  rw [← Lib.size_eq] at hl1 hl2
  have LS := Lib.hid (letters_any nm UA A un uc n c L s (w.alloc (.cells #[Value.string nm, Value.slice UA un uc, Value.slice A n c] 28)) B hL1 (by simp; omega) hz hs)
  have HBX := Lib.hid hbx; clear hbx
  have HL1 := Lib.hid hL1; clear hL1
  go_enter Try.func18, Try.ntmps18
  go_wp2_with fail
  refine LS.out.mono ?_
  rintro e w1 ⟨va, vb, rfl, hva, hvb, hb1⟩
  rw [prim_eq] at hva
  rw [secd_eq] at hvb
  obtain ⟨A1, c1, rfl, _, _, ra⟩ := own_form hva
  obtain ⟨A2, c2, rfl, _, _, rb⟩ := own_form hvb
  have HRA := Lib.hid ra; have HRB := Lib.hid rb
  have HB1 : Hid (Below (w.heap.size + 1) (w.alloc (.cells #[Value.string nm, Value.slice UA un uc, Value.slice A n c] 28)) w1) := hb1.mono (by simp)
  obtain ⟨k0, k1, k2⟩ := HBX.out w1 HB1.out
  have LT := Lib.hid (letters_any nm UA A un uc n c L t w1 B (HL1.out.below (HB1.out.mono (by omega))) (by have := HB1.out.size; simp at this; omega) hz ht)
  clear hva hvb ra rb hb1 LS
  go_wp2_with fail
  refine LT.out.mono ?_
  rintro e w2 ⟨va, vb, rfl, hva, hvb, hb2⟩
  rw [prim_eq] at hva
  rw [secd_eq] at hvb
  obtain ⟨A3, c3, rfl, _, _, ra⟩ := own_form hva
  obtain ⟨A4, c4, rfl, _, _, rb⟩ := own_form hvb
  have HRC := Lib.hid ra; have HRD := Lib.hid rb
  have HB2 : Hid (Below w1.heap.size w1 w2) := hb2
  clear hva hvb ra rb hb2 LT k0 k1 k2
  go_wp2_with fail
  refine (compare_ints _ _ _ _ _ _ (primI L s.data.toList) (primI L t.data.toList) w2 (HRA.out.on HB2.out) HRC.out (by omega) (by omega)).mono ?_
  rintro e w3 ⟨rfl, hk⟩
  have HB3 : Hid (Below w2.heap.size w2 w3) := by obtain ⟨k, rfl⟩ := hk; exact below_drewN (Below.refl _ _) _
  clear hk
  go_wp2_with fail
  refine (compare_ints _ _ _ _ _ _ (secI L s.data.toList) (secI L t.data.toList) w3 ((HRB.out.on HB2.out).on HB3.out) (HRD.out.on HB3.out) (by omega) (by omega)).mono ?_
  rintro e w4 ⟨rfl, hk⟩
  have HB4 : Hid (Below w3.heap.size w3 w4) := by obtain ⟨k, rfl⟩ := hk; exact below_drewN (Below.refl _ _) _
  clear hk
  have kc := fun (w : World) (s : ByteArray) => Lib.run_convert_string_bytes (P := Try.prog) w 9 48 5 s Try.underlying9 Try.underlying48 Try.underlying5
  go_wp2_with fail
  clear kc
  have HB5 : Hid (Below w4.heap.size w4 (Lib.bytesWorld w4 5 s)) := below_bytes _ _ _
  have HB6 : Hid (Below (Lib.bytesWorld w4 5 s).heap.size (Lib.bytesWorld w4 5 s) (Lib.bytesWorld (Lib.bytesWorld w4 5 s) 5 t)) := below_bytes _ _ _
  refine (compare_bytes _ _ _ _ _ _ (bytesI s.data.toList) (bytesI t.data.toList) _ ((reads_bytes w4 5 s).on HB6.out) (reads_bytes _ _ _) (by omega) (by omega)).mono ?_
  rintro e w7 ⟨rfl, hk⟩
  have HB7 : Hid (Below (Lib.bytesWorld (Lib.bytesWorld w4 5 s) 5 t).heap.size (Lib.bytesWorld (Lib.bytesWorld w4 5 s) 5 t) w7) := by obtain ⟨k, rfl⟩ := hk; exact below_drewN (Below.refl _ _) _
  clear hk
  go_wp2_with fail
  refine (or_ints _ _ _ [cmpI (primI L s.data.toList) (primI L t.data.toList), cmpI (secI L s.data.toList) (secI L t.data.toList), cmpI (bytesI s.data.toList) (bytesI t.data.toList)] _ ?_ (by omega)).mono ?_
  · refine ⟨rfl, fun _ => ⟨_, rfl, by simp, fun j u hu => ?_⟩⟩
    match j, hu with
    | 0, hu => cases hu; simp [Addr.add]
    | 1, hu => cases hu; simp [Addr.add]
    | 2, hu => cases hu; simp [Addr.add]
  · rintro e w8 ⟨rfl, rfl⟩
    go_wp2
    go_ret
    refine ⟨ret_i64 ?_, ?_⟩
    · simp only [orL, cmpS, or2]
      split
      · split
        · split
          · rename_i h; exact h.symm
          · rfl
        · rfl
      · rfl
    · have b12 := HB1.out.trans (HB2.out.mono (by have := HB1.out.size; simp at this; omega))
      have s1 := HB1.out.size; have s2 := HB2.out.size; have s3 := HB3.out.size; have s4 := HB4.out.size; have s5 := HB5.out.size; have s6 := HB6.out.size; have s7 := HB7.out.size
      simp at s1
      refine (((((((hbe.trans (HB1.out.mono (by omega))).trans (HB2.out.mono (by omega))).trans (HB3.out.mono (by omega))).trans (HB4.out.mono (by omega))).trans (HB5.out.mono (by omega))).trans (HB6.out.mono (by omega))).trans (HB7.out.mono (by omega))).alloc (by omega) _
end Go.Proofs.Ytgbhpmbkhhbifaa
