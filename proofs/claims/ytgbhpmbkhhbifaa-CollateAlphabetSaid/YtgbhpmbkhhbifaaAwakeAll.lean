import Derived.Test.YtgbhpmbkhhbifaaAwake
namespace Go.Proofs.Ytgbhpmbkhhbifaa
open Go.RowKit Col Srt
set_option linter.unusedVariables false
set_option linter.unusedSimpArgs false

/-- The sample lies in box b. -/
structure AW (w : World) (b : Nat) (A : Option Addr) : Prop where
  box : BoxO w b ⟨#[111]⟩ none 0 0 A 4 4
  rows : RowsR w w.heap.size A 4 smp
  lt : b < w.heap.size
theorem AW.on {w w' : World} {b : Nat} {A : Option Addr} (h : AW w b A) (hb : Below w.heap.size w w') : AW w' b A := by
  obtain ⟨k0, k1, k2⟩ := h.box
  exact ⟨⟨(hb.cell (p := ⟨b, 0, none⟩) h.lt).trans k0, (hb.cell (p := ⟨b, 1, none⟩) h.lt).trans k1, (hb.cell (p := ⟨b, 2, none⟩) h.lt).trans k2⟩, h.rows.on hb, Nat.lt_of_lt_of_le h.lt hb.size⟩
theorem BoxO.alloc {w : World} {b : Nat} {nm : ByteArray} {UA A : Option Addr} {un uc n c : Nat} (h : BoxO w b nm UA un uc A n c) (hb : b < w.heap.size) (o : Obj) : BoxO (w.alloc o) b nm UA un uc A n c :=
  ⟨(World.cell?_alloc_lt _ _ _ hb).trans h.1, (World.cell?_alloc_lt _ _ _ hb).trans h.2.1, (World.cell?_alloc_lt _ _ _ hb).trans h.2.2⟩
theorem mono_eq {P : Program} {f : FuncId} {args : Array Value} {w : World} {v v' : Value} {R : World → Prop} (h : Calls P f args w fun e w' => e = .returned v ∧ R w') (hv : v = v') : Calls P f args w fun e w' => e = .returned v' ∧ R w' := by
  subst hv; exact h
instance {α : Type} (c : α → α → Int) (p q : Tag α) : Decidable (lexLt c p q) := by unfold lexLt; infer_instance
theorem sorted_smp : StableOf (cmpB smp) [⟨#[110, 97]⟩, ⟨#[33]⟩, ⟨#[98]⟩, ⟨#[110, 103, 97]⟩, ⟨#[]⟩] [⟨#[]⟩, ⟨#[98]⟩, ⟨#[110, 103, 97]⟩, ⟨#[110, 97]⟩, ⟨#[33]⟩] :=
  ⟨[(⟨#[]⟩, 4), (⟨#[98]⟩, 2), (⟨#[110, 103, 97]⟩, 3), (⟨#[110, 97]⟩, 0), (⟨#[33]⟩, 1)], by decide +kernel, by decide +kernel, rfl⟩

theorem cmp_smp {w : World} {b : Nat} {A : Option Addr} (h : AW w b A) (s t : ByteArray) (r : Int) (hr : cmpS smp s.data.toList t.data.toList = r) (hs : s.size ≤ 1099511627776) (ht : t.size ≤ 1099511627776) :
    Calls Try.prog 18 #[.agg #[.string ⟨#[111]⟩, .slice none 0 0, .slice A 4 4], .string s, .string t] w fun e w' => e = .returned (.int .i64 r) ∧ Below w.heap.size w w' :=
  mono_eq (compare_any ⟨#[111]⟩ none A 0 0 4 4 smp s t w _ h.rows (Nat.le_refl _) smp_sized hs ht) (by rw [hr])
theorem sec_smp {w : World} {b : Nat} {A : Option Addr} (h : AW w b A) (s : ByteArray) (r : Int) (hr : section_ smp s.data.toList = r) (hs : s.size ≤ 140737488355328) :
    Calls Try.prog 16 #[.agg #[.string ⟨#[111]⟩, .slice none 0 0, .slice A 4 4], .string s] w fun e w' => e = .returned (.int .i64 r) ∧ Below w.heap.size w w' :=
  mono_eq (section_any ⟨#[111]⟩ none A 0 0 4 4 smp s w _ h.rows (Nat.le_refl _) smp_sized hs) (by rw [hr])
theorem head_smp {w : World} {b : Nat} {A : Option Addr} (h : AW w b A) (i : Int) (r : ByteArray) (hr : headOf smp i = r) :
    Calls Try.prog 24 #[.agg #[.string ⟨#[111]⟩, .slice none 0 0, .slice A 4 4], .int .i64 i] w fun e w' => e = .returned (.string r) ∧ Below w.heap.size w w' :=
  mono_eq (head_any ⟨#[111]⟩ none A 0 0 4 4 smp i w _ h.rows (Nat.le_refl _) smp_sized) (by rw [hr])

set_option maxHeartbeats 2000000 in
theorem awake_any (w : World) : Calls Try.prog 12 #[] w fun e w' => e = .returned (.bool true) ∧ Below w.heap.size w w' := by
  go_enter Try.func12, Try.ntmps12
  go_wp2_with fail
  refine (sample_any _).mono ?_
  rintro e w1 ⟨A, rfl, hrows, hb1⟩
  have aw : Hid (AW (w1.alloc (.cells #[.string ⟨#[111]⟩, .slice none 0 0, .slice A 4 4] 28)) w1.heap.size A) := by
    refine ⟨⟨?_, ?_, ?_⟩, hrows.on (below_new _ _), by simp⟩
    all_goals (rw [World.cell?_alloc_at _ _ _ _ rfl]; rfl)
  have HB1 : Hid (Below w.heap.size w (w1.alloc (.cells #[.string ⟨#[111]⟩, .slice none 0 0, .slice A 4 4] 28))) := hb1.alloc hb1.size _
  clear hrows hb1
  go_wp2_with fail
  refine (letters_any ⟨#[111]⟩ none A 0 0 4 4 smp ⟨#[78, 103, 97, 33]⟩ _ _ aw.out.rows (Nat.le_refl _) smp_sized (by decide)).mono ?_
  rintro e w2 ⟨va, vb, rfl, hva, hvb, hb2⟩
  rw [show letters smp (⟨#[78, 103, 97, 33]⟩ : ByteArray).data.toList = [(2, 1, true), (0, 0, true), (37, 0, false)] by decide +kernel] at *
  obtain ⟨A1, c1, rfl, _, _, ra⟩ := own_form hva
  obtain ⟨A2, c2, rfl, _, _, rb⟩ := own_form hvb
  have RA2 := Lib.hid ra; have RB2 := Lib.hid rb
  clear hva hvb ra rb
  have aw2 := Lib.hid (aw.out.on hb2)
  have HB2 : Hid (Below w.heap.size w w2) := HB1.out.trans (hb2.mono HB1.out.size)
  clear aw HB1 hb2
  obtain ⟨k0, k1, k2⟩ := aw2.out.box
  go_wp2_with fail
  refine (cmp_smp aw2.out ⟨#[110, 103, 97]⟩ ⟨#[98]⟩ 1 (by decide +kernel) (by decide) (by decide)).mono ?_
  rintro e w3 ⟨rfl, hb⟩
  have aw3 := Lib.hid (aw2.out.on hb)
  have HB3 : Hid (Below w.heap.size w w3) := HB2.out.trans (hb.mono HB2.out.size)
  have RA3 := Lib.hid (RA2.out.on hb)
  have RB3 := Lib.hid (RB2.out.on hb)
  clear aw2 HB2 hb k0 k1 k2 RA2 RB2
  obtain ⟨k0, k1, k2⟩ := aw3.out.box
  go_wp2_with fail
  refine (cmp_smp aw3.out ⟨#[110, 103, 97]⟩ ⟨#[110, 97]⟩ (-1) (by decide +kernel) (by decide) (by decide)).mono ?_
  rintro e w4 ⟨rfl, hb⟩
  have aw4 := Lib.hid (aw3.out.on hb)
  have HB4 : Hid (Below w.heap.size w w4) := HB3.out.trans (hb.mono HB3.out.size)
  have RA4 := Lib.hid (RA3.out.on hb)
  have RB4 := Lib.hid (RB3.out.on hb)
  clear aw3 HB3 hb k0 k1 k2 RA3 RB3
  obtain ⟨k0, k1, k2⟩ := aw4.out.box
  go_wp2_with fail
  refine (cmp_smp aw4.out ⟨#[78, 103, 97]⟩ ⟨#[110, 103, 97]⟩ 1 (by decide +kernel) (by decide) (by decide)).mono ?_
  rintro e w5 ⟨rfl, hb⟩
  have aw5 := Lib.hid (aw4.out.on hb)
  have HB5 : Hid (Below w.heap.size w w5) := HB4.out.trans (hb.mono HB4.out.size)
  have RA5 := Lib.hid (RA4.out.on hb)
  have RB5 := Lib.hid (RB4.out.on hb)
  clear aw4 HB4 hb k0 k1 k2 RA4 RB4
  obtain ⟨k0, k1, k2⟩ := aw5.out.box
  go_wp2_with fail
  refine (cmp_smp aw5.out ⟨#[78, 103, 97]⟩ ⟨#[110, 103, 98]⟩ (-1) (by decide +kernel) (by decide) (by decide)).mono ?_
  rintro e w6 ⟨rfl, hb⟩
  have aw6 := Lib.hid (aw5.out.on hb)
  have HB6 : Hid (Below w.heap.size w w6) := HB5.out.trans (hb.mono HB5.out.size)
  have RA6 := Lib.hid (RA5.out.on hb)
  have RB6 := Lib.hid (RB5.out.on hb)
  clear aw5 HB5 hb k0 k1 k2 RA5 RB5
  obtain ⟨k0, k1, k2⟩ := aw6.out.box
  go_wp2_with fail
  refine (mono_eq (same_ints _ _ 3 3 _ _ [2, 0, 37] [2, 0, 37] _ (RA6.out.on (below_new _ _)) (reads_new _ _ #[.int .i64 2, .int .i64 0, .int .i64 37]) (by omega) (by omega)) (v' := .bool true) (by simp)).mono ?_
  rintro e w7 ⟨rfl, hk⟩
  have hb : Below w6.heap.size w6 w7 := by obtain ⟨q, rfl⟩ := hk; exact below_drewN (below_new _ _) _
  clear hk
  have aw7 := Lib.hid (aw6.out.on hb)
  have HB7 : Hid (Below w.heap.size w w7) := HB6.out.trans (hb.mono HB6.out.size)
  have RA7 := Lib.hid (RA6.out.on hb)
  have RB7 := Lib.hid (RB6.out.on hb)
  clear aw6 HB6 hb k0 k1 k2 RA6 RB6
  obtain ⟨k0, k1, k2⟩ := aw7.out.box
  go_wp2_with fail
  refine (mono_eq (same_ints _ _ 3 3 _ _ [1, 0, 0] [1, 0, 0] _ (RB7.out.on (below_new _ _)) (reads_new _ _ #[.int .i64 1, .int .i64 0, .int .i64 0]) (by omega) (by omega)) (v' := .bool true) (by simp)).mono ?_
  rintro e w8 ⟨rfl, hk⟩
  have hb : Below w7.heap.size w7 w8 := by obtain ⟨q, rfl⟩ := hk; exact below_drewN (below_new _ _) _
  clear hk
  have aw8 := Lib.hid (aw7.out.on hb)
  have HB8 : Hid (Below w.heap.size w w8) := HB7.out.trans (hb.mono HB7.out.size)
  clear aw7 HB7 hb k0 k1 k2 RA7 RB7
  obtain ⟨k0, k1, k2⟩ := aw8.out.box
  go_wp2_with fail
  refine (sort_any ⟨#[111]⟩ none A _ 0 0 4 4 5 _ smp [⟨#[110, 97]⟩, ⟨#[33]⟩, ⟨#[98]⟩, ⟨#[110, 103, 97]⟩, ⟨#[]⟩] _ _ (aw8.out.on (below_new _ _)).rows (Nat.le_refl _) smp_sized (sr_new w8 _ [⟨#[110, 97]⟩, ⟨#[33]⟩, ⟨#[98]⟩, ⟨#[110, 103, 97]⟩, ⟨#[]⟩] #[.string ⟨#[110, 97]⟩, .string ⟨#[33]⟩, .string ⟨#[98]⟩, .string ⟨#[110, 103, 97]⟩, .string ⟨#[]⟩] rfl) (by omega) (by decide)).mono ?_
  rintro e w9 ⟨v, ys, rfl, hown, hst, hb'⟩
  obtain rfl : ys = [⟨#[]⟩, ⟨#[98]⟩, ⟨#[110, 103, 97]⟩, ⟨#[110, 97]⟩, ⟨#[33]⟩] := hst.unique (cmpB_is smp) sorted_smp
  obtain ⟨A3, c3, rfl, _, _, ra⟩ := own_form hown
  have hb : Below w8.heap.size w8 w9 := (below_new _ _).trans (hb'.mono (by simp))
  have RC := Lib.hid ra
  clear hown hst hb' ra
  have aw9 := Lib.hid (aw8.out.on hb)
  have HB9 : Hid (Below w.heap.size w w9) := HB8.out.trans (hb.mono HB8.out.size)
  clear aw8 HB8 hb k0 k1 k2
  obtain ⟨k0, k1, k2⟩ := aw9.out.box
  go_wp2_with fail
  refine (mono_eq (same_strs _ _ 5 5 _ _ [⟨#[]⟩, ⟨#[98]⟩, ⟨#[110, 103, 97]⟩, ⟨#[110, 97]⟩, ⟨#[33]⟩] [⟨#[]⟩, ⟨#[98]⟩, ⟨#[110, 103, 97]⟩, ⟨#[110, 97]⟩, ⟨#[33]⟩] _ (SR.on RC.out (below_new _ _)) (sr_new w9 _ [⟨#[]⟩, ⟨#[98]⟩, ⟨#[110, 103, 97]⟩, ⟨#[110, 97]⟩, ⟨#[33]⟩] #[.string ⟨#[]⟩, .string ⟨#[98]⟩, .string ⟨#[110, 103, 97]⟩, .string ⟨#[110, 97]⟩, .string ⟨#[33]⟩] rfl) (by omega) (by omega)) (v' := .bool true) (by simp)).mono ?_
  rintro e w10 ⟨rfl, hk⟩
  have hb : Below w9.heap.size w9 w10 := by obtain ⟨q, rfl⟩ := hk; exact below_drewN (below_new _ _) _
  clear hk RC
  have aw10 := Lib.hid (aw9.out.on hb)
  have HB10 : Hid (Below w.heap.size w w10) := HB9.out.trans (hb.mono HB9.out.size)
  clear aw9 HB9 hb k0 k1 k2
  obtain ⟨k0, k1, k2⟩ := aw10.out.box
  go_wp2_with fail
  refine (sec_smp aw10.out ⟨#[78, 103]⟩ 2 (by decide +kernel) (by decide)).mono ?_
  rintro e w11 ⟨rfl, hb⟩
  have aw11 := Lib.hid (aw10.out.on hb)
  have HB11 : Hid (Below w.heap.size w w11) := HB10.out.trans (hb.mono HB10.out.size)
  clear aw10 HB10 hb k0 k1 k2
  obtain ⟨k0, k1, k2⟩ := aw11.out.box
  go_wp2_with fail
  refine (sec_smp aw11.out ⟨#[33, 97]⟩ (-1) (by decide +kernel) (by decide)).mono ?_
  rintro e w12 ⟨rfl, hb⟩
  have aw12 := Lib.hid (aw11.out.on hb)
  have HB12 : Hid (Below w.heap.size w w12) := HB11.out.trans (hb.mono HB11.out.size)
  clear aw11 HB11 hb k0 k1 k2
  obtain ⟨k0, k1, k2⟩ := aw12.out.box
  go_wp2_with fail
  refine (head_smp aw12.out 2 ⟨#[110, 103]⟩ (by decide +kernel)).mono ?_
  rintro e w13 ⟨rfl, hb⟩
  have aw13 := Lib.hid (aw12.out.on hb)
  have HB13 : Hid (Below w.heap.size w w13) := HB12.out.trans (hb.mono HB12.out.size)
  clear aw12 HB12 hb k0 k1 k2
  obtain ⟨k0, k1, k2⟩ := aw13.out.box
  go_wp2_with fail
  refine (head_smp aw13.out 4 ⟨#[]⟩ (by decide +kernel)).mono ?_
  rintro e w14 ⟨rfl, hb⟩
  have aw14 := Lib.hid (aw13.out.on hb)
  have HB14 : Hid (Below w.heap.size w w14) := HB13.out.trans (hb.mono HB13.out.size)
  clear aw13 HB13 hb k0 k1 k2
  obtain ⟨k0, k1, k2⟩ := aw14.out.box
  go_wp2
  go_ret
  exact ⟨rfl, HB14.out⟩
end Go.Proofs.Ytgbhpmbkhhbifaa
