/-
  The examples of the chapter, walked: awake returns true.
-/
import Derived.Test.YtacfeabdeaikhaaDoorFew
namespace Go.Proofs.YtacfeabdeaikhaaDoor
open Go.RowKit Ru Lay
set_option linter.unusedVariables false
set_option linter.unusedSimpArgs false

def smp : List (List ByteArray) := [[⟨#[98, 97]⟩, ⟨#[109, 105]⟩], [⟨#[100, 111, 103]⟩, ⟨#[80, 76]⟩]]
theorem smp_sz : SzL smp := by
  refine ⟨by decide, fun r hr => ?_⟩
  simp [smp] at hr
  rcases hr with rfl | rfl
  · exact ⟨by decide, fun s hs => by simp at hs; rcases hs with rfl | rfl <;> decide⟩
  · exact ⟨by decide, fun s hs => by simp at hs; rcases hs with rfl | rfl <;> decide⟩
theorem smp_align : alignL smp = [⟨#[98, 97, 32, 32, 109, 105]⟩, ⟨#[100, 111, 103, 32, 80, 76]⟩] := by decide +kernel
theorem smp_cols : cols smp = [3, 2] := by decide +kernel
theorem smp_wrap : wrapL smp 3 = [⟨#[98, 97]⟩, ⟨#[100, 111, 103]⟩, ⟨#[]⟩, ⟨#[109, 105]⟩, ⟨#[80, 76]⟩] := by decide +kernel
theorem smp_groups : groups [3, 3, 9] 7 = [(0, 2), (2, 3)] := by decide +kernel
theorem smp_w1 : widB ⟨#[97, 204, 129, 98]⟩ = 2 := by decide +kernel
theorem smp_w2 : widB ⟨#[255, 254]⟩ = 2 := by decide +kernel
theorem smp_pad : padB ⟨#[97, 204, 129]⟩ 3 = ⟨#[97, 204, 129, 32, 32]⟩ := by decide +kernel
theorem rows_two (W : World) (e1 e2 e3 : TypeId) (r1 r2 : List ByteArray) (c1 c2 : Array Value) (n1 n2 : Nat) (h1 : c1.toList = r1.map .string) (h2 : c2.toList = r2.map .string) (l1 : n1 = r1.length) (l2 : n2 = r2.length) (z1 : n1 ≤ 1000) (z2 : n2 ≤ 1000) :
    RowsR (((W.alloc (.cells c1 e1)).alloc (.cells c2 e2)).alloc (.cells #[.slice (some ⟨W.heap.size, 0, none⟩) n1 n1, .slice (some ⟨W.heap.size + 1, 0, none⟩) n2 n2] e3))
      (((W.alloc (.cells c1 e1)).alloc (.cells c2 e2)).alloc (.cells #[.slice (some ⟨W.heap.size, 0, none⟩) n1 n1, .slice (some ⟨W.heap.size + 1, 0, none⟩) n2 n2] e3)).heap.size (some ⟨W.heap.size + 1 + 1, 0, none⟩) 2 [r1, r2] := by
  have s1 := sr_new W e1 r1 c1 h1 n1 l1
  generalize hW1 : W.alloc (.cells c1 e1) = W1 at s1 ⊢
  have y1 : W1.heap.size = W.heap.size + 1 := by rw [← hW1]; simp
  have s2 := sr_new W1 e2 r2 c2 h2 n2 l2
  have b2 := below_new W1 (.cells c2 e2)
  generalize hW2 : W1.alloc (.cells c2 e2) = W2 at s2 b2 ⊢
  have y2 : W2.heap.size = W1.heap.size + 1 := by rw [← hW2]; simp
  have s1b := SR.on s1 b2
  have b3 := below_new W2 (.cells #[.slice (some ⟨W.heap.size, 0, none⟩) n1 n1, .slice (some ⟨W.heap.size + 1, 0, none⟩) n2 n2] e3)
  have rn := reads_new W2 e3 #[.slice (some ⟨W.heap.size, 0, none⟩) n1 n1, .slice (some ⟨W.heap.size + 1, 0, none⟩) n2 n2]
  rw [y2, y1] at rn
  generalize hW3 : W2.alloc (.cells #[.slice (some ⟨W.heap.size, 0, none⟩) n1 n1, .slice (some ⟨W.heap.size + 1, 0, none⟩) n2 n2] e3) = W3 at b3 rn ⊢
  have s1c := SR.on s1b b3
  have s2c := SR.on s2 b3
  rw [y1] at s2c
  refine ⟨_, rn, rfl, fun i l hl => ?_⟩
  match i, hl with
  | 0, hl => simp at hl; subst hl; exact ⟨_, _, _, rfl, s1c, Nat.le_refl _, by omega⟩
  | 1, hl => simp at hl; subst hl; exact ⟨_, _, _, rfl, s2c, Nat.le_refl _, by omega⟩
theorem gr_new (w : World) (e : TypeId) (l : List (Nat × Nat)) (c : Array Value) (hc : c.toList = pairV l) (n : Nat) (hn : n = l.length) : GR (w.alloc (.cells c e)) (w.alloc (.cells c e)).heap.size (some ⟨w.heap.size, 0, none⟩) n l := by
  subst hn
  have h := reads_new w e c
  have e1 : c.size = l.length * 2 := by rw [← Array.length_toList, hc, pairV_len]
  refine ⟨⟨pairV_len l, fun _ => ?_⟩, rfl⟩
  by_cases h0 : 0 < c.size
  · obtain ⟨ad, e2, hb, hx⟩ := h.2 h0
    rw [hc] at hx
    exact ⟨ad, e2, hb, hx⟩
  · exfalso; omega
set_option maxHeartbeats 4000000 in
set_option maxRecDepth 100000 in
theorem awake_any (w : World) (hT : Tabs w) : Calls Tryd.prog 12 #[] w fun e w' => e = .returned (.bool true) ∧ Below w.heap.size w w' := by
  have HT := Lib.hid hT; clear hT
  obtain ⟨w0, hw0⟩ : ∃ w0, Hid (w = w0) := ⟨_, rfl⟩
  have HB0 : Hid (Below w.heap.size w w0) := by rw [← hw0.out]; exact Below.refl _ _
  rw [show Calls Tryd.prog 12 #[] w = Calls Tryd.prog 12 #[] w0 by rw [hw0.out]]
  go_enter Tryd.func12, Tryd.ntmps12
  go_wp2_with fail
  have hr := rows_two w0 9 9 36 [⟨#[98, 97]⟩, ⟨#[109, 105]⟩] [⟨#[100, 111, 103]⟩, ⟨#[80, 76]⟩] #[.string ⟨#[98, 97]⟩, .string ⟨#[109, 105]⟩] #[.string ⟨#[100, 111, 103]⟩, .string ⟨#[80, 76]⟩] 2 2 rfl rfl rfl rfl (by decide) (by decide)
  have hb : Below w0.heap.size w0 (((w0.alloc (.cells #[.string ⟨#[98, 97]⟩, .string ⟨#[109, 105]⟩] 9)).alloc (.cells #[.string ⟨#[100, 111, 103]⟩, .string ⟨#[80, 76]⟩] 9)).alloc (.cells #[.slice (some ⟨w0.heap.size, 0, none⟩) 2 2, .slice (some ⟨w0.heap.size + 1, 0, none⟩) 2 2] 36)) := (((Below.refl _ _).alloc (Nat.le_refl _) _).alloc (by simp) _).alloc (by simp; omega) _
  obtain ⟨w1, hw1⟩ : ∃ w1, ((w0.alloc (.cells #[.string ⟨#[98, 97]⟩, .string ⟨#[109, 105]⟩] 9)).alloc (.cells #[.string ⟨#[100, 111, 103]⟩, .string ⟨#[80, 76]⟩] 9)).alloc (.cells #[.slice (some ⟨w0.heap.size, 0, none⟩) 2 2, .slice (some ⟨w0.heap.size + 1, 0, none⟩) 2 2] 36) = w1 := ⟨_, rfl⟩
  rw [hw1] at hr hb ⊢
  obtain ⟨bk, hbk⟩ : ∃ bk, w0.heap.size + 1 + 1 = bk := ⟨_, rfl⟩
  rw [hbk] at hr ⊢
  have HR1 : Hid (RowsR w1 w1.heap.size (some ⟨bk, 0, none⟩) 2 smp) := hr
  have HB1 : Hid (Below w.heap.size w w1) := HB0.out.trans (hb.mono HB0.out.size)
  clear hr hb hw1 hbk
  go_wp2_with fail
  refine (align_any (some ⟨bk, 0, none⟩) 2 2 smp w1 HR1.out smp_sz (HT.out.on HB1.out)).mono ?_
  rw [smp_align]
  rintro e w2 ⟨v, rfl, hown, hb⟩
  obtain ⟨A2, c2, rfl, _, _, hs2⟩ := hown.form
  have HR2 := Lib.hid (HR1.out.on hb)
  have HS2 := Lib.hid hs2
  have HB2 : Hid (Below w.heap.size w w2) := HB1.out.trans (hb.mono HB1.out.size)
  clear hown hs2 hb
  go_wp2_with fail
  refine (equal_new (c := c2) w2 #[.string ⟨#[98, 97, 32, 32, 109, 105]⟩, .string ⟨#[100, 111, 103, 32, 80, 76]⟩] [⟨#[98, 97, 32, 32, 109, 105]⟩, ⟨#[100, 111, 103, 32, 80, 76]⟩] 9 HS2.out rfl (by decide)).mono ?_
  rintro e w3 ⟨rfl, hb⟩
  have HR3 := Lib.hid (HR2.out.on hb)
  have HB3 : Hid (Below w.heap.size w w3) := HB2.out.trans (hb.mono HB2.out.size)
  clear hb
  go_wp2_with fail
  have HI4 := Lib.hid (ir_new w3 3 [3, 3, 9] #[.int .i64 3, .int .i64 3, .int .i64 9] rfl 3 rfl)
  refine (groups_any (some ⟨w3.heap.size, 0, none⟩) 3 3 [3, 3, 9] 7 (w3.alloc (.cells #[.int .i64 3, .int .i64 3, .int .i64 9] 3)) HI4.out (by decide) (fun x hx => by simp at hx; omega) (by decide)).mono ?_
  rw [smp_groups]
  rintro e w4 ⟨v, rfl, hown, hb⟩
  obtain ⟨A4, c4, rfl, hg4⟩ := hown.form
  have hb4 : Below w3.heap.size w3 w4 := (below_new w3 _).trans (hb.mono (by simp))
  have HR4 := Lib.hid (HR3.out.on hb4)
  have HG4 := Lib.hid hg4
  have HB4 : Hid (Below w.heap.size w w4) := HB3.out.trans (hb4.mono HB3.out.size)
  clear hown hg4 hb hb4 HI4
  go_wp2_with fail
  have HG5 := Lib.hid (gr_new w4 40 [(0, 2), (2, 3)] #[.int .i64 0, .int .i64 2, .int .i64 2, .int .i64 3] rfl 2 rfl)
  refine (samePairs_any A4 (some ⟨w4.heap.size, 0, none⟩) 2 c4 2 [(0, 2), (2, 3)] (w4.alloc (.cells #[.int .i64 0, .int .i64 2, .int .i64 2, .int .i64 3] 40)) (HG4.out.on (below_new _ _)) HG5.out (by decide)).mono ?_
  rintro e w5 ⟨rfl, hb⟩
  have hb5 : Below w4.heap.size w4 w5 := (below_new w4 _).trans (hb.mono (by simp))
  have HR5 := Lib.hid (HR4.out.on hb5)
  have HB5 : Hid (Below w.heap.size w w5) := HB4.out.trans (hb5.mono HB4.out.size)
  clear hb hb5 HG5
  go_wp2_with fail
  refine (wrap_any (some ⟨bk, 0, none⟩) 2 2 smp 3 w5 HR5.out smp_sz (by decide) (HT.out.on HB5.out)).mono ?_
  rw [smp_wrap]
  rintro e w6 ⟨v, rfl, hown, hb⟩
  obtain ⟨A6, c6, rfl, _, _, hs6⟩ := hown.form
  have HR6 := Lib.hid (HR5.out.on hb)
  have HS6 := Lib.hid hs6
  have HB6 : Hid (Below w.heap.size w w6) := HB5.out.trans (hb.mono HB5.out.size)
  clear hown hs6 hb
  go_wp2_with fail
  refine (equal_new (c := c6) w6 #[.string ⟨#[98, 97]⟩, .string ⟨#[100, 111, 103]⟩, .string ⟨#[]⟩, .string ⟨#[109, 105]⟩, .string ⟨#[80, 76]⟩] [⟨#[98, 97]⟩, ⟨#[100, 111, 103]⟩, ⟨#[]⟩, ⟨#[109, 105]⟩, ⟨#[80, 76]⟩] 9 HS6.out rfl (by decide)).mono ?_
  rintro e w7 ⟨rfl, hb⟩
  have HR7 := Lib.hid (HR6.out.on hb)
  have HB7 : Hid (Below w.heap.size w w7) := HB6.out.trans (hb.mono HB6.out.size)
  clear hb
  go_wp2_with fail
  refine (columns_any (some ⟨bk, 0, none⟩) 2 2 smp w7 HR7.out smp_sz (HT.out.on HB7.out)).mono ?_
  rw [smp_cols]
  rintro e w8 ⟨v, rfl, hown, hb⟩
  obtain ⟨A8, c8, rfl, _, _, hs8⟩ := hown.form
  have HS8 := Lib.hid hs8
  have HB8 : Hid (Below w.heap.size w w8) := HB7.out.trans (hb.mono HB7.out.size)
  clear hown hs8 hb
  go_wp2_with fail
  refine (same_new (c := c8) w8 #[.int .i64 3, .int .i64 2] [3, 2] 3 HS8.out rfl (by decide)).mono ?_
  rintro e w9 ⟨rfl, hb⟩
  have HB9 : Hid (Below w.heap.size w w9) := HB8.out.trans (hb.mono HB8.out.size)
  clear hb
  go_wp2_with fail
  refine (width_any ⟨#[97, 204, 129, 98]⟩ w9 (by decide) (HT.out.on HB9.out)).mono ?_
  rw [smp_w1]
  rintro e w10 ⟨rfl, hb⟩
  have HB10 : Hid (Below w.heap.size w w10) := HB9.out.trans (hb.mono HB9.out.size)
  clear hb
  go_wp2_with fail
  refine (width_any ⟨#[255, 254]⟩ w10 (by decide) (HT.out.on HB10.out)).mono ?_
  rw [smp_w2]
  rintro e w11 ⟨rfl, hb⟩
  have HB11 : Hid (Below w.heap.size w w11) := HB10.out.trans (hb.mono HB10.out.size)
  clear hb
  go_wp2_with fail
  refine (pad_any ⟨#[97, 204, 129]⟩ 3 w11 (by decide) (HT.out.on HB11.out)).mono ?_
  rw [smp_pad]
  rintro e w12 ⟨rfl, hb⟩
  have HB12 : Hid (Below w.heap.size w w12) := HB11.out.trans (hb.mono HB11.out.size)
  clear hb
  go_wp2
  go_ret
  exact ⟨rfl, HB12.out⟩
end Go.Proofs.YtacfeabdeaikhaaDoor
