import Derived.Test.YthcabnfcgjnlnaaGreatDoorRo09
import Derived.Test.YthcabnfcgjnlnaaGreatDoorRows
import Derived.Deep.Slices
import Derived.ChangeSame
import Derived.ChangeArms
import Derived.Lib.SmallJoins
/-
  The reference's glosses: isWord.
-/
namespace Go.Proofs.YthcabnfcgjnlnaaGreatDoor
open Go.RowKit Ru Lay
attribute [local go_sem ↓] Go.wp_at_zero Go.wp_at_succ
set_option linter.unusedVariables false
set_option linter.unusedSimpArgs false

set_option maxHeartbeats 4000000 in
set_option maxRecDepth 100000 in
theorem isWord_any (d : Dv) (T : List Ti) (l : List Nt) (id : Int) (w : World) (hT : TiersR w w.heap.size d.ta d.tn T) (hl : NotesR w w.heap.size d.na d.nn l) (hn : d.nn ≤ 9223372036854775807) (htn : d.tn ≤ 1000000) :
    Calls Tryz.prog 67 #[docV d, .int .i64 id] w fun e w' => e = .returned (.bool (wordB T l id)) ∧ Below w.heap.size w w' := by
  have HG := Lib.hid fun (W : World) (hW : Below w.heap.size w W) => refGet_any d l id W (hl.on hW) hn
  have HRR := Lib.hid fun (W : World) (hW : Below w.heap.size w W) => role32_any d T 2 W (hT.on hW) htn
  clear hl hT
  unfold docV at HG HRR
  unfold docV
  obtain ⟨rid, name, len, day, sa, sn, sc, ta, tn, tc, na, nn, nc⟩ := d
  simp only at HG HRR hn htn ⊢
  obtain ⟨W0, hW0, hz0, hB0, hK0⟩ := doc_cells w rid name len day sa ta na sn sc tn tc nn nc
  have HB := Lib.hid hB0
  have HK := Lib.hid hK0
  clear hB0 hK0
  have k0 : W0.cell? ⟨w.heap.size, 0, none⟩ = some (.int .i64 rid) := HK.out W0 (Below.refl _ _) 0 _ rfl
  have k1 : W0.cell? ⟨w.heap.size, 1, none⟩ = some (.string name) := HK.out W0 (Below.refl _ _) 1 _ rfl
  have k2 : W0.cell? ⟨w.heap.size, 2, none⟩ = some (.int .i64 len) := HK.out W0 (Below.refl _ _) 2 _ rfl
  have k3 : W0.cell? ⟨w.heap.size, 3, none⟩ = some (.int .i64 day) := HK.out W0 (Below.refl _ _) 3 _ rfl
  have k4 : W0.cell? ⟨w.heap.size, 4, none⟩ = some (.slice sa sn sc) := HK.out W0 (Below.refl _ _) 4 _ rfl
  have k5 : W0.cell? ⟨w.heap.size, 5, none⟩ = some (.slice ta tn tc) := HK.out W0 (Below.refl _ _) 5 _ rfl
  have k6 : W0.cell? ⟨w.heap.size, 6, none⟩ = some (.slice na nn nc) := HK.out W0 (Below.refl _ _) 6 _ rfl
  have HGG := Lib.hid (HG.out W0 HB.out)
  unfold getV noteV at HGG
  unfold wordB
  obtain ⟨y, hy⟩ : ∃ y, (getN l id).getD nt0 = y := ⟨_, rfl⟩
  obtain ⟨bs, hbs⟩ : ∃ bs, (getN l id).isSome = bs := ⟨_, rfl⟩
  obtain ⟨rt, hrt⟩ : ∃ rt, roleT T 2 = rt := ⟨_, rfl⟩
  rw [hy, hbs] at HGG
  rw [hrt] at HRR
  rw [hy, hbs, hrt]
  clear hy hbs hrt HG
  go_enter Tryz.func67, Tryz.ntmps67
  go_upto_region 1 with fail
  (try rw [hW0])
  clear hW0
  go_wp2_with fail
  refine HGG.out.mono ?_
  rintro e w1 ⟨rfl, hb⟩
  have HB1 := Lib.hid hb
  obtain ⟨b, hbq⟩ : ∃ b, w1.heap.size = b := ⟨_, rfl⟩
  obtain ⟨w2, hw2⟩ : ∃ w2, w1.alloc (.cells #[.int .i64 y.nid, .int .i64 y.tier, .int .i64 y.parent, .int .i64 y.at1, .int .i64 y.at2, .int .i64 y.rank, .string y.text] 58) = w2 := ⟨_, rfl⟩
  have HB2 : Hid (Below W0.heap.size W0 w2) := by rw [← hw2]; exact hb.alloc hb.size _
  have HY : Hid (∀ W, Below w2.heap.size w2 W → W.cell? ⟨b, 1, none⟩ = some (.int .i64 y.tier)) := fun W hW => by
    rw [hW.cell (p := ⟨b, 1, none⟩) (by rw [← hw2, ← hbq]; simp), ← hw2, ← hbq, World.cell?_alloc_new]; rfl
  have HR := Lib.hid fun W (hW : Below w2.heap.size w2 W) => HRR.out W (HB.out.trans ((HB2.out.trans (hW.mono HB2.out.size)).mono HB.out.size))
  clear hb k0 k1 k2 k3 k4 k5 k6 HGG HRR
  go_upto_region 2 with fail
  (try rw [hw2])
  (try rw [hbq])
  clear hw2 hbq
  cases bs with
  | true =>
    refine wp_region_told [Told.is (.bool true), Told.is (.bool true), Told.is (.pointer (some ⟨b, 1, none⟩)), Told.is (.int .i64 y.tier), Told.is (.agg #[.int .i64 rid, .string name, .int .i64 len, .int .i64 day, .slice sa sn sc, .slice ta tn tc, .slice na nn nc]), Told.is (.int .i64 rt), Told.is (.bool (y.tier == rt)), Told.is (.bool (y.tier == rt)), Told.is (.bool (y.tier == rt))] (by kernel_rfl) (by kernel_rfl) ?_ ?_
    · refine And.intro (fun w4 vals hB hd K hK => ?_) ?_
      · clear hd
        simp only [putAll, Act.put, List.setIfInBounds_toArray, List.set_cons_zero, List.set_cons_succ] at hK ⊢
        obtain ⟨ve, hve⟩ : ∃ f : Nat → Value, f = vals := ⟨_, rfl⟩
        rw [← hve] at hK  ⊢
        clear hve
        refine gwp_none rfl ?_
        go_simp
        exact hK _ _ rfl (Below.refl _ _)
      refine And.intro (fun w4 vals hB hd K hK => ?_) ?_
      · have e0 : vals 0 = .bool true := told_at (hd 0 rfl) rfl
        clear hd
        simp only [putAll, Act.put, List.setIfInBounds_toArray, List.set_cons_zero, List.set_cons_succ] at hK ⊢
        simp only [e0] at hK ⊢
        obtain ⟨ve, hve⟩ : ∃ f : Nat → Value, f = vals := ⟨_, rfl⟩
        rw [← hve] at hK  ⊢
        clear e0 hve
        refine gwp_none rfl ?_
        go_simp
        exact hK _ _ rfl (Below.refl _ _)
      refine And.intro (fun w4 vals hB hd K hK => ?_) ?_
      · have g1 : vals 1 = .bool true := told_at (hd 1 rfl) rfl
        clear hd
        simp only [putAll, Act.put, List.setIfInBounds_toArray, List.set_cons_zero, List.set_cons_succ] at hK ⊢
        obtain ⟨ve, hve⟩ : ∃ f : Nat → Value, f = vals := ⟨_, rfl⟩
        rw [← hve] at hK g1 ⊢
        clear hve
        refine gwp_some rfl g1 ?_
        clear g1
        go_simp
        exact hK _ _ rfl (Below.refl _ _)
      refine And.intro (fun w4 vals hB hd K hK => ?_) ?_
      · have e2 : vals 2 = .pointer (some ⟨b, 1, none⟩) := told_at (hd 2 rfl) rfl
        have g1 : vals 1 = .bool true := told_at (hd 1 rfl) rfl
        clear hd
        simp only [putAll, Act.put, List.setIfInBounds_toArray, List.set_cons_zero, List.set_cons_succ] at hK ⊢
        simp only [e2] at hK ⊢
        obtain ⟨ve, hve⟩ : ∃ f : Nat → Value, f = vals := ⟨_, rfl⟩
        rw [← hve] at hK g1 ⊢
        clear e2 hve
        refine gwp_some rfl g1 ?_
        clear g1
        have c1 : w4.cell? ⟨b, 1, none⟩ = some (.int .i64 y.tier) := HY.out w4 hB
        go_simp
        exact hK _ _ rfl (Below.refl _ _)
      refine And.intro (fun w4 vals hB hd K hK => ?_) ?_
      · have g1 : vals 1 = .bool true := told_at (hd 1 rfl) rfl
        clear hd
        simp only [putAll, Act.put, List.setIfInBounds_toArray, List.set_cons_zero, List.set_cons_succ] at hK ⊢
        obtain ⟨ve, hve⟩ : ∃ f : Nat → Value, f = vals := ⟨_, rfl⟩
        rw [← hve] at hK g1 ⊢
        clear hve
        refine gwp_some rfl g1 ?_
        clear g1
        have k0 : w4.cell? ⟨w.heap.size, 0, none⟩ = some (.int .i64 rid) := HK.out w4 (HB2.out.trans (hB.mono HB2.out.size)) 0 _ rfl
        have k1 : w4.cell? ⟨w.heap.size, 1, none⟩ = some (.string name) := HK.out w4 (HB2.out.trans (hB.mono HB2.out.size)) 1 _ rfl
        have k2 : w4.cell? ⟨w.heap.size, 2, none⟩ = some (.int .i64 len) := HK.out w4 (HB2.out.trans (hB.mono HB2.out.size)) 2 _ rfl
        have k3 : w4.cell? ⟨w.heap.size, 3, none⟩ = some (.int .i64 day) := HK.out w4 (HB2.out.trans (hB.mono HB2.out.size)) 3 _ rfl
        have k4 : w4.cell? ⟨w.heap.size, 4, none⟩ = some (.slice sa sn sc) := HK.out w4 (HB2.out.trans (hB.mono HB2.out.size)) 4 _ rfl
        have k5 : w4.cell? ⟨w.heap.size, 5, none⟩ = some (.slice ta tn tc) := HK.out w4 (HB2.out.trans (hB.mono HB2.out.size)) 5 _ rfl
        have k6 : w4.cell? ⟨w.heap.size, 6, none⟩ = some (.slice na nn nc) := HK.out w4 (HB2.out.trans (hB.mono HB2.out.size)) 6 _ rfl
        go_simp
        exact hK _ _ rfl (Below.refl _ _)
      refine And.intro (fun w4 vals hB hd K hK => ?_) ?_
      · have e4 : vals 4 = .agg #[.int .i64 rid, .string name, .int .i64 len, .int .i64 day, .slice sa sn sc, .slice ta tn tc, .slice na nn nc] := told_at (hd 4 rfl) rfl
        have g1 : vals 1 = .bool true := told_at (hd 1 rfl) rfl
        clear hd
        simp only [putAll, Act.put, List.setIfInBounds_toArray, List.set_cons_zero, List.set_cons_succ] at hK ⊢
        simp only [e4] at hK ⊢
        obtain ⟨ve, hve⟩ : ∃ f : Nat → Value, f = vals := ⟨_, rfl⟩
        rw [← hve] at hK g1 ⊢
        clear e4 hve
        refine gwp_some rfl g1 ?_
        clear g1
        go_simp
        refine (HR.out w4 hB).mono ?_
        rintro e w5 ⟨rfl, hb⟩
        exact hK _ _ rfl hb
      refine And.intro (fun w4 vals hB hd K hK => ?_) ?_
      · have e3 : vals 3 = .int .i64 y.tier := told_at (hd 3 rfl) rfl
        have e5 : vals 5 = .int .i64 rt := told_at (hd 5 rfl) rfl
        have g1 : vals 1 = .bool true := told_at (hd 1 rfl) rfl
        clear hd
        simp only [putAll, Act.put, List.setIfInBounds_toArray, List.set_cons_zero, List.set_cons_succ] at hK ⊢
        simp only [e3, e5] at hK ⊢
        obtain ⟨ve, hve⟩ : ∃ f : Nat → Value, f = vals := ⟨_, rfl⟩
        rw [← hve] at hK g1 ⊢
        clear e3 e5 hve
        refine gwp_some rfl g1 ?_
        clear g1
        go_simp
        exact hK _ _ rfl (Below.refl _ _)
      refine And.intro (fun w4 vals hB hd K hK => ?_) ?_
      · have e1 : vals 1 = .bool true := told_at (hd 1 rfl) rfl
        have e6 : vals 6 = .bool (y.tier == rt) := told_at (hd 6 rfl) rfl
        clear hd
        simp only [putAll, Act.put, List.setIfInBounds_toArray, List.set_cons_zero, List.set_cons_succ] at hK ⊢
        simp only [e1, e6] at hK ⊢
        obtain ⟨ve, hve⟩ : ∃ f : Nat → Value, f = vals := ⟨_, rfl⟩
        rw [← hve] at hK  ⊢
        clear e1 e6 hve
        refine gwp_none rfl ?_
        go_simp
        exact hK _ _ rfl (Below.refl _ _)
      refine And.intro (fun w4 vals hB hd K hK => ?_) ?_
      · have e7 : vals 7 = .bool (y.tier == rt) := told_at (hd 7 rfl) rfl
        clear hd
        simp only [putAll, Act.put, List.setIfInBounds_toArray, List.set_cons_zero, List.set_cons_succ] at hK ⊢
        simp only [e7] at hK ⊢
        obtain ⟨ve, hve⟩ : ∃ f : Nat → Value, f = vals := ⟨_, rfl⟩
        rw [← hve] at hK  ⊢
        clear e7 hve
        refine gwp_none rfl ?_
        go_simp
        exact hK _ _ rfl (Below.refl _ _)
      exact trivial
    · intro w4 vals hB hd
      have e8 : vals 8 = .bool (y.tier == rt) := told_at (hd 8 (by decide)) rfl
      clear hd
      simp only [putAll, Act.put, List.setIfInBounds_toArray, List.set_cons_zero, List.set_cons_succ]
      simp only [e8]
      obtain ⟨ve, hve⟩ : ∃ f : Nat → Value, f = vals := ⟨_, rfl⟩
      rw [← hve]
      clear e8 hve
      go_wp2
      go_ret
      exact ⟨by simp, HB.out.trans ((HB2.out.trans (hB.mono HB2.out.size)).mono HB.out.size)⟩
  | false =>
    refine wp_region_told [Told.is (.bool false), Told.is (.bool false), Told.is (undef), Told.is (undef), Told.is (undef), Told.is (undef), Told.is (undef), Told.is (.bool false), Told.is (.bool false)] (by kernel_rfl) (by kernel_rfl) ?_ ?_
    · refine And.intro (fun w4 vals hB hd K hK => ?_) ?_
      · clear hd
        simp only [putAll, Act.put, List.setIfInBounds_toArray, List.set_cons_zero, List.set_cons_succ] at hK ⊢
        obtain ⟨ve, hve⟩ : ∃ f : Nat → Value, f = vals := ⟨_, rfl⟩
        rw [← hve] at hK  ⊢
        clear hve
        refine gwp_none rfl ?_
        go_simp
        exact hK _ _ rfl (Below.refl _ _)
      refine And.intro (fun w4 vals hB hd K hK => ?_) ?_
      · have e0 : vals 0 = .bool false := told_at (hd 0 rfl) rfl
        clear hd
        simp only [putAll, Act.put, List.setIfInBounds_toArray, List.set_cons_zero, List.set_cons_succ] at hK ⊢
        simp only [e0] at hK ⊢
        obtain ⟨ve, hve⟩ : ∃ f : Nat → Value, f = vals := ⟨_, rfl⟩
        rw [← hve] at hK  ⊢
        clear e0 hve
        refine gwp_none rfl ?_
        go_simp
        exact hK _ _ rfl (Below.refl _ _)
      refine And.intro (fun w4 vals hB hd K hK => ?_) ?_
      · have g1 : vals 1 = .bool false := told_at (hd 1 rfl) rfl
        clear hd
        simp only [putAll, Act.put, List.setIfInBounds_toArray, List.set_cons_zero, List.set_cons_succ] at hK ⊢
        obtain ⟨ve, hve⟩ : ∃ f : Nat → Value, f = vals := ⟨_, rfl⟩
        rw [← hve] at hK g1 ⊢
        clear hve
        refine gwp_skip rfl g1 ?_
        simp only [Act.put, List.setIfInBounds_toArray, List.set_cons_zero, List.set_cons_succ]
        exact hK _ _ rfl (Below.refl _ _)
      refine And.intro (fun w4 vals hB hd K hK => ?_) ?_
      · have e2 : vals 2 = undef := told_at (hd 2 rfl) rfl
        have g1 : vals 1 = .bool false := told_at (hd 1 rfl) rfl
        clear hd
        simp only [putAll, Act.put, List.setIfInBounds_toArray, List.set_cons_zero, List.set_cons_succ] at hK ⊢
        simp only [e2] at hK ⊢
        obtain ⟨ve, hve⟩ : ∃ f : Nat → Value, f = vals := ⟨_, rfl⟩
        rw [← hve] at hK g1 ⊢
        clear e2 hve
        refine gwp_skip rfl g1 ?_
        simp only [Act.put, List.setIfInBounds_toArray, List.set_cons_zero, List.set_cons_succ]
        exact hK _ _ rfl (Below.refl _ _)
      refine And.intro (fun w4 vals hB hd K hK => ?_) ?_
      · have g1 : vals 1 = .bool false := told_at (hd 1 rfl) rfl
        clear hd
        simp only [putAll, Act.put, List.setIfInBounds_toArray, List.set_cons_zero, List.set_cons_succ] at hK ⊢
        obtain ⟨ve, hve⟩ : ∃ f : Nat → Value, f = vals := ⟨_, rfl⟩
        rw [← hve] at hK g1 ⊢
        clear hve
        refine gwp_skip rfl g1 ?_
        simp only [Act.put, List.setIfInBounds_toArray, List.set_cons_zero, List.set_cons_succ]
        exact hK _ _ rfl (Below.refl _ _)
      refine And.intro (fun w4 vals hB hd K hK => ?_) ?_
      · have e4 : vals 4 = undef := told_at (hd 4 rfl) rfl
        have g1 : vals 1 = .bool false := told_at (hd 1 rfl) rfl
        clear hd
        simp only [putAll, Act.put, List.setIfInBounds_toArray, List.set_cons_zero, List.set_cons_succ] at hK ⊢
        simp only [e4] at hK ⊢
        obtain ⟨ve, hve⟩ : ∃ f : Nat → Value, f = vals := ⟨_, rfl⟩
        rw [← hve] at hK g1 ⊢
        clear e4 hve
        refine gwp_skip rfl g1 ?_
        simp only [Act.put, List.setIfInBounds_toArray, List.set_cons_zero, List.set_cons_succ]
        exact hK _ _ rfl (Below.refl _ _)
      refine And.intro (fun w4 vals hB hd K hK => ?_) ?_
      · have e3 : vals 3 = undef := told_at (hd 3 rfl) rfl
        have e5 : vals 5 = undef := told_at (hd 5 rfl) rfl
        have g1 : vals 1 = .bool false := told_at (hd 1 rfl) rfl
        clear hd
        simp only [putAll, Act.put, List.setIfInBounds_toArray, List.set_cons_zero, List.set_cons_succ] at hK ⊢
        simp only [e3, e5] at hK ⊢
        obtain ⟨ve, hve⟩ : ∃ f : Nat → Value, f = vals := ⟨_, rfl⟩
        rw [← hve] at hK g1 ⊢
        clear e3 e5 hve
        refine gwp_skip rfl g1 ?_
        simp only [Act.put, List.setIfInBounds_toArray, List.set_cons_zero, List.set_cons_succ]
        exact hK _ _ rfl (Below.refl _ _)
      refine And.intro (fun w4 vals hB hd K hK => ?_) ?_
      · have e1 : vals 1 = .bool false := told_at (hd 1 rfl) rfl
        have e6 : vals 6 = undef := told_at (hd 6 rfl) rfl
        clear hd
        simp only [putAll, Act.put, List.setIfInBounds_toArray, List.set_cons_zero, List.set_cons_succ] at hK ⊢
        simp only [e1, e6] at hK ⊢
        obtain ⟨ve, hve⟩ : ∃ f : Nat → Value, f = vals := ⟨_, rfl⟩
        rw [← hve] at hK  ⊢
        clear e1 e6 hve
        refine gwp_none rfl ?_
        go_simp
        exact hK _ _ rfl (Below.refl _ _)
      refine And.intro (fun w4 vals hB hd K hK => ?_) ?_
      · have e7 : vals 7 = .bool false := told_at (hd 7 rfl) rfl
        clear hd
        simp only [putAll, Act.put, List.setIfInBounds_toArray, List.set_cons_zero, List.set_cons_succ] at hK ⊢
        simp only [e7] at hK ⊢
        obtain ⟨ve, hve⟩ : ∃ f : Nat → Value, f = vals := ⟨_, rfl⟩
        rw [← hve] at hK  ⊢
        clear e7 hve
        refine gwp_none rfl ?_
        go_simp
        exact hK _ _ rfl (Below.refl _ _)
      exact trivial
    · intro w4 vals hB hd
      have e8 : vals 8 = .bool false := told_at (hd 8 (by decide)) rfl
      clear hd
      simp only [putAll, Act.put, List.setIfInBounds_toArray, List.set_cons_zero, List.set_cons_succ]
      simp only [e8]
      obtain ⟨ve, hve⟩ : ∃ f : Nat → Value, f = vals := ⟨_, rfl⟩
      rw [← hve]
      clear e8 hve
      go_wp2
      go_ret
      exact ⟨by simp, HB.out.trans ((HB2.out.trans (hB.mono HB2.out.size)).mono HB.out.size)⟩
end Go.Proofs.YthcabnfcgjnlnaaGreatDoor
/-
  PLAIN LAW: the rows of an interlinear example: forms and glosses of the words of a note; the translations of a note. No program in sight.
-/
set_option linter.unusedVariables false
set_option linter.unusedSimpArgs false
namespace Go.Proofs.YthcabnfcgjnlnaaGreatDoor
open Go.RowKit Ru Lay Srt Col

theorem joinD_one (x : ByteArray) : joinD [x] = x := by
  unfold joinD
  rw [List.map_cons, List.map_nil, Lib.join_one]
theorem joinD_next {l : List ByteArray} {i : Nat} {x : ByteArray} (h : l[i]? = some x) (h0 : 0 < i) : joinD (l.take (i + 1)) = joinD (l.take i) ++ ⟨#[45]⟩ ++ x := by
  cases l with
  | nil => simp at h
  | cons a r =>
    obtain ⟨j, rfl⟩ : ∃ j, i = j + 1 := ⟨i - 1, by omega⟩
    rw [List.getElem?_cons_succ] at h
    apply ByteArray.ext
    unfold joinD
    rw [List.take_succ_cons, List.take_succ_cons, List.map_cons, List.map_cons, Lib.join_cons, Lib.join_cons, List.map_take, List.map_take, Lib.joinTail_take_succ [45] (r.map (·.data.toList)) j x.data.toList (by rw [List.getElem?_map, h]; rfl), ByteArray.data_append, ByteArray.data_append]
    apply Array.ext'
    simp
theorem joinD_first {l : List ByteArray} {x : ByteArray} (h : l[0]? = some x) : joinD (l.take 1) = x := by
  cases l with
  | nil => simp at h
  | cons a r => simp at h; subst h; exact joinD_one a
theorem kidF_kids {T : List Ti} {l : List Nt} (hL : LightN T l) (id tier : Int) (ht : 0 ≤ tier ∧ tier < (T.length : Int)) : kidF T l id tier = kidsL T.length l id tier := by
  rw [kidK_ids hL id tier ht]
  unfold kidF ofI
  rw [if_neg (by omega)]
  unfold ofL kidK
  rw [List.filter_map]
  congr 1
  refine List.filter_congr fun x hx => ?_
  have hm := (ofK_all.1 hx).1
  show decide (((getN l x.nid).getD nt0).parent = id) = _
  rw [hL.get hm]
  rfl
end Go.Proofs.YthcabnfcgjnlnaaGreatDoor
/-
  strings.Join with a minus sign; the reference's join.
-/
namespace Go.Proofs.YthcabnfcgjnlnaaGreatDoor
open Go.RowKit Ru Lay
attribute [local go_sem ↓] Go.wp_at_zero Go.wp_at_succ
set_option linter.unusedVariables false
set_option linter.unusedSimpArgs false

set_option maxHeartbeats 1000000 in
theorem refJoin_any (A : Option Addr) (n c : Nat) (l : List ByteArray) (w : World) (hl : SR w w.heap.size A n l) (hz : SzS l) :
    Calls Tryz.prog 42 #[.slice A n c] w fun e w' => e = .returned (.string (joinD l)) ∧ w' = w := by
  have HN := Lib.hid hl.len
  have HL := Lib.hid hl
  have HZ := Lib.hid hz
  have hn : n ≤ 1000 := by rw [← hl.len]; exact hz.1
  have HSZ : Hid (∀ i, i ≤ n → (joinD (l.take i)).size ≤ 1001000) := fun i hi => by
    have h1 := joinD_sz (l := l.take i) (m := 1000) fun s hs => hz.2 s (List.mem_of_mem_take hs)
    have h2 : (l.take i).length ≤ 1000 := by rw [List.length_take]; omega
    have h3 : (l.take i).length * (1000 + 1) ≤ 1000 * 1001 := Nat.mul_le_mul_right 1001 h2
    omega
  clear hl hz
  go_enter Tryz.func42, Tryz.ntmps42
  go_wp2_with fail
  go_loop [3, 4, 7] (fun vs v4 vi => ∃ i : Nat, i ≤ n ∧ vi = .int .i64 i ∧ vs = .string (joinD (l.take i))) (fun _ _ vi => n - (intOf vi).toNat)
  case atStart => exact ⟨0, Nat.zero_le _, rfl, rfl⟩
  case round =>
    obtain ⟨i, hi, rfl, rfl⟩ := hrel
    by_cases hlt : i < n
    · obtain ⟨ad, s, rfl, hab, hs, hc⟩ := HL.out.at_ hlt
      have hiz : (i : Int) < (n : Int) := by omega
      have hiA : (0 : Int) ≤ (i : Int) := by omega
      have hsz : s.size ≤ 1000 := HZ.out.2 s (List.mem_of_getElem? hs)
      have hx := HSZ.out i hi
      have HLT := Lib.hid hlt
      by_cases h0 : 0 < i
      · have HX := Lib.hid (joinD_next hs h0)
        have h0z : decide ((0 : Int) < (i : Int)) = true := decide_eq_true (by omega)
        have h0z' : decide ((i : Int) > 0) = true := decide_eq_true (by omega)
        have h0n : decide (0 < i) = true := decide_eq_true h0
        clear hs h0
        obtain ⟨x, hxe⟩ : ∃ x, joinD (l.take i) = x := ⟨_, rfl⟩
        rw [hxe] at HX hx ⊢
        clear hxe
        have hq1 : x.size + (⟨#[45]⟩ : ByteArray).size ≤ 9223372036854775807 := by
          have : (⟨#[45]⟩ : ByteArray).size = 1 := rfl
          omega
        have hq2 : (x ++ ⟨#[45]⟩ : ByteArray).size + s.size ≤ 9223372036854775807 := by
          have h1 : (⟨#[45]⟩ : ByteArray).size = 1 := rfl
          rw [ByteArray.size_append, h1]
          omega
        go_wp2
        go_round
        case rel => exact ⟨i + 1, HLT.out, by go_num, by rw [HX.out]⟩
        case measure => have := HLT.out; simp [intOf]; omega
      · have HX : Hid (joinD (l.take (i + 1)) = ⟨#[]⟩ ++ s) := by
          obtain rfl : i = 0 := by omega
          rw [show (⟨#[]⟩ : ByteArray) ++ s = s from ByteArray.empty_append]
          exact joinD_first hs
        have HX0 : Hid (joinD (l.take i) = ⟨#[]⟩) := by
          obtain rfl : i = 0 := by omega
          rfl
        have h0z : decide ((0 : Int) < (i : Int)) = false := decide_eq_false (by omega)
        have h0z' : decide ((i : Int) > 0) = false := decide_eq_false (by omega)
        have h0n : decide (0 < i) = false := decide_eq_false h0
        clear hs h0
        obtain ⟨x, hxe⟩ : ∃ x, joinD (l.take i) = x := ⟨_, rfl⟩
        rw [hxe] at HX0 hx ⊢
        rw [← HX0.out] at HX
        clear hxe HX0
        have hq1 : x.size + s.size ≤ 9223372036854775807 := by omega
        clear hx
        go_wp2
        go_round
        case rel => exact ⟨i + 1, HLT.out, by go_num, by rw [HX.out]⟩
        case measure => have := HLT.out; simp [intOf]; omega
    · obtain rfl : n = i := by omega
      have hiz : ¬ (n : Int) < (n : Int) := by omega
      have HR : Hid (joinD (l.take n) = joinD l) := by show _ = _; rw [List.take_of_length_le (by rw [HN.out]; exact Nat.le_refl _)]
      go_wp2
      go_ret
      exact ⟨ret_str HR.out, rfl⟩
end Go.Proofs.YthcabnfcgjnlnaaGreatDoor
/-
  OPENING a slice of integers among the arguments.
-/
namespace Go.Proofs.YthcabnfcgjnlnaaGreatDoor
open Go.RowKit Go.ChangeShapes Go.WideShapes Go.ChangeAt Go.Deep Go.Joins
set_option linter.unusedVariables false
set_option linter.unusedSimpArgs false

theorem list_of {α : Type} [Inhabited α] {n : Nat} {p : Nat → α → Prop} (h : ∀ i, i < n → ∃ x, p i x) : ∃ L : List α, L.length = n ∧ ∀ i x, L[i]? = some x → p i x := by
  obtain ⟨f, hf⟩ := choose_lt h
  refine ⟨(List.range n).map f, by simp, fun i x hx => ?_⟩
  have hi := (List.getElem?_eq_some_iff.1 hx).1
  simp at hi
  have e : some (f i) = some x := by rw [← hx]; simp [hi]
  injection e with e
  rw [← e]
  exact hf i hi
theorem cellsInt : Tryz.prog.cellsOf 3 = 1 := by kernel_rfl
section
variable {H : Type} {enc : TypeId × Value → H} {w : World} {spare : Nat → Bool} {held : Bool} {fuel : Nat} {v : Value} {x : DataW H × List MemPlace}
theorem open_ints (hf : DataW.trod enc Tryz.prog w 0 spare held fuel 32 [v] = some x) : ∃ A n c, ∃ l : List Int, v = .slice A n c ∧ Reads w w.heap.size 1 A n (l.map (.int .i64)) ∧ n ≤ maxLen := by
  rcases open_slice1 Tryz.underlying32 cellsInt hf with ⟨h0, _⟩ | ⟨a, len, cap, m, n, V, D, Pl, h0, _, hl, hm, hmm, _, hx⟩
  · injection h0 with h0
    subst h0
    exact ⟨none, 0, 0, [], rfl, Reads.none_, Nat.zero_le _⟩
  · injection h0 with h0
    subst h0
    have hlm : len ≤ m := by rw [hmm]; split <;> omega
    obtain ⟨l, hlen, hL⟩ := list_of (α := Int) (n := len) (p := fun i s => w.cell? (a.add i) = some (.int .i64 s)) (fun i hi => by
      obtain ⟨h1, h2⟩ := hx i (by omega)
      obtain ⟨s, hs, _, _⟩ := DataW.trod_int Tryz.underlying3 h2
      injection hs with hs
      exact ⟨s, by rw [h1, hs]⟩)
    refine ⟨some a, len, cap, l, rfl, ⟨by simpa using hlen, fun hn => ⟨a, rfl, ?_, fun j u hu => ?_⟩⟩, by omega⟩
    · have := World.block_lt_of_cell? w _ (hx 0 (by omega)).1
      rw [block_of_add] at this
      exact this
    · rw [List.getElem?_map] at hu
      cases hz : l[j]? with
      | none => rw [hz] at hu; cases hu
      | some s => rw [hz] at hu; cases hu; exact hL j s hz
end
end Go.Proofs.YthcabnfcgjnlnaaGreatDoor
namespace Go.Proofs.YthcabnfcgjnlnaaGreatDoor
open Go.RowKit
set_option linter.unusedVariables false
set_option linter.unusedSimpArgs false

def vari (L : List (List ByteArray)) (i k : Nat) : ByteArray := (L.getD i []).getD k ⟨#[]⟩
end Go.Proofs.YthcabnfcgjnlnaaGreatDoor
namespace Go.Proofs.YthcabnfcgjnlnaaGreatDoor
open Go.RowKit
set_option linter.unusedVariables false
set_option linter.unusedSimpArgs false

/-- The sizes that 'right' looks at first. -/
def smallB (S : List (ByteArray × Int)) (nm : ByteArray) (U : List (ByteArray × List Int)) (L : List (List ByteArray)) : Bool :=
  (decide (S.length ≤ 60) && (decide (U.length ≤ 110) && (decide (L.length ≤ 110) && decide (nm.size ≤ 100)))) && (Ok.allTo (fun i => decide ((segName S i).size ≤ 100)) S.length &&
    (Ok.allTo (fun i => decide ((graph U i).size ≤ 100) && decide ((usegs U i).length ≤ 10)) U.length && Ok.allTo (fun i => decide ((L.getD i []).length ≤ 20) && Ok.allTo (fun k => decide ((vari L i k).size ≤ 100)) (L.getD i []).length) L.length))
end Go.Proofs.YthcabnfcgjnlnaaGreatDoor
/-
  OPENING a document among the arguments.
-/
namespace Go.Proofs.YthcabnfcgjnlnaaGreatDoor
open Go.RowKit Go.ChangeShapes Go.WideShapes Go.ChangeAt Go.Deep Go.Joins Ru Lay
set_option linter.unusedVariables false
set_option linter.unusedSimpArgs false

theorem array7 {α : Type} {cs : Array α} (h : cs.size = 7) : ∃ c0 c1 c2 c3 c4 c5 c6, cs = #[c0, c1, c2, c3, c4, c5, c6] := by
  obtain ⟨l⟩ := cs
  match l, h with
  | [c0, c1, c2, c3, c4, c5, c6], _ => exact ⟨c0, c1, c2, c3, c4, c5, c6, rfl⟩
section
variable {H : Type} {enc : TypeId × Value → H} {w : World} {spare : Nat → Bool} {held : Bool} {fuel : Nat} {v : Value} {x : DataW H × List MemPlace}
theorem trod_fields {t : TypeId} {fs : Array Field} {cs : List Value} (ht : Tryz.prog.underlying t = some (.struct fs)) (h : DataW.trod enc Tryz.prog w 0 spare held fuel t cs = some x) :
    ∃ n, ∀ (i : Nat) (f : Field), fs[i]? = some f → ∃ y, DataW.trod enc Tryz.prog w 0 spare held n f.type ((cs.drop f.offset).take (Tryz.prog.cellsOf f.type)) = some y := by
  obtain ⟨xs, n, _, _, _, hlen, hs⟩ := DataW.trod_struct ht h
  refine ⟨n, fun i f hf => ?_⟩
  have hi : i < xs.length := by rw [hlen]; exact (Array.getElem?_eq_some_iff.1 hf).1
  exact ⟨xs[i], by rw [hs i f hf]; exact List.getElem?_eq_getElem hi⟩
theorem int_of {c : Value} (h : DataW.trod enc Tryz.prog w 0 spare held fuel 3 [c] = some x) : ∃ s, c = .int .i64 s := by
  obtain ⟨s, e, _, _⟩ := DataW.trod_int Tryz.underlying3 h
  injection e with e
  exact ⟨s, e⟩
theorem str_of {c : Value} (h : DataW.trod enc Tryz.prog w 0 spare held fuel 9 [c] = some x) : ∃ s, c = .string s ∧ s.size ≤ maxLen := by
  obtain ⟨s, e, _, hs⟩ := DataW.trod_string Tryz.underlying9 h
  injection e with e
  exact ⟨s, e, hs⟩
theorem note_of {c0 c1 c2 c3 c4 c5 c6 : Value} (h : DataW.trod enc Tryz.prog w 0 spare held fuel 58 [c0, c1, c2, c3, c4, c5, c6] = some x) : ∃ n : Nt, [c0, c1, c2, c3, c4, c5, c6] = encN n := by
  have hcp : Tryz.prog.cellsOf 56 = 2 := by kernel_rfl
  have hci : Tryz.prog.cellsOf 3 = 1 := by kernel_rfl
  have hcs : Tryz.prog.cellsOf 9 = 1 := by kernel_rfl
  obtain ⟨n, hs⟩ := trod_fields Tryz.underlying58 h
  obtain ⟨_, t0⟩ : ∃ y, DataW.trod enc Tryz.prog w 0 spare held n 3 (([c0, c1, c2, c3, c4, c5, c6].drop 0).take (Tryz.prog.cellsOf 3)) = some y := hs 0 _ rfl
  obtain ⟨_, t1⟩ : ∃ y, DataW.trod enc Tryz.prog w 0 spare held n 3 (([c0, c1, c2, c3, c4, c5, c6].drop 1).take (Tryz.prog.cellsOf 3)) = some y := hs 1 _ rfl
  obtain ⟨_, t2⟩ : ∃ y, DataW.trod enc Tryz.prog w 0 spare held n 3 (([c0, c1, c2, c3, c4, c5, c6].drop 2).take (Tryz.prog.cellsOf 3)) = some y := hs 2 _ rfl
  obtain ⟨_, t3⟩ : ∃ y, DataW.trod enc Tryz.prog w 0 spare held n 56 (([c0, c1, c2, c3, c4, c5, c6].drop 3).take (Tryz.prog.cellsOf 56)) = some y := hs 3 _ rfl
  obtain ⟨_, t4⟩ : ∃ y, DataW.trod enc Tryz.prog w 0 spare held n 3 (([c0, c1, c2, c3, c4, c5, c6].drop 5).take (Tryz.prog.cellsOf 3)) = some y := hs 4 _ rfl
  obtain ⟨_, t5⟩ : ∃ y, DataW.trod enc Tryz.prog w 0 spare held n 9 (([c0, c1, c2, c3, c4, c5, c6].drop 6).take (Tryz.prog.cellsOf 9)) = some y := hs 5 _ rfl
  simp only [hcp, hci, hcs, List.drop, List.take] at t0 t1 t2 t3 t4 t5
  obtain ⟨n2, hr⟩ := trod_fields Tryz.underlying56 t3
  obtain ⟨_, r0⟩ : ∃ y, DataW.trod enc Tryz.prog w 0 spare held n2 3 (([c3, c4].drop 0).take (Tryz.prog.cellsOf 3)) = some y := hr 0 _ rfl
  obtain ⟨_, r1⟩ : ∃ y, DataW.trod enc Tryz.prog w 0 spare held n2 3 (([c3, c4].drop 1).take (Tryz.prog.cellsOf 3)) = some y := hr 1 _ rfl
  simp only [hci, List.drop, List.take] at r0 r1
  obtain ⟨s0, rfl⟩ := int_of t0
  obtain ⟨s1, rfl⟩ := int_of t1
  obtain ⟨s2, rfl⟩ := int_of t2
  obtain ⟨s3, rfl⟩ := int_of r0
  obtain ⟨s4, rfl⟩ := int_of r1
  obtain ⟨s5, rfl⟩ := int_of t4
  obtain ⟨s6, rfl, _⟩ := str_of t5
  exact ⟨⟨s0, s1, s2, s3, s4, s5, s6⟩, rfl⟩
theorem tier_of {c0 c1 c2 c3 : Value} (h : DataW.trod enc Tryz.prog w 0 spare held fuel 86 [c0, c1, c2, c3] = some x) : ∃ n : Ti, [c0, c1, c2, c3] = encT n ∧ n.name.size ≤ 9223372036854775807 := by
  have hci : Tryz.prog.cellsOf 3 = 1 := by kernel_rfl
  have hcs : Tryz.prog.cellsOf 9 = 1 := by kernel_rfl
  obtain ⟨n, hs⟩ := trod_fields Tryz.underlying86 h
  obtain ⟨_, t0⟩ : ∃ y, DataW.trod enc Tryz.prog w 0 spare held n 9 (([c0, c1, c2, c3].drop 0).take (Tryz.prog.cellsOf 9)) = some y := hs 0 _ rfl
  obtain ⟨_, t1⟩ : ∃ y, DataW.trod enc Tryz.prog w 0 spare held n 3 (([c0, c1, c2, c3].drop 1).take (Tryz.prog.cellsOf 3)) = some y := hs 1 _ rfl
  obtain ⟨_, t2⟩ : ∃ y, DataW.trod enc Tryz.prog w 0 spare held n 3 (([c0, c1, c2, c3].drop 2).take (Tryz.prog.cellsOf 3)) = some y := hs 2 _ rfl
  obtain ⟨_, t3⟩ : ∃ y, DataW.trod enc Tryz.prog w 0 spare held n 3 (([c0, c1, c2, c3].drop 3).take (Tryz.prog.cellsOf 3)) = some y := hs 3 _ rfl
  simp only [hci, hcs, List.drop, List.take] at t0 t1 t2 t3
  obtain ⟨s0, rfl, h0⟩ := str_of t0
  obtain ⟨s1, rfl⟩ := int_of t1
  obtain ⟨s2, rfl⟩ := int_of t2
  obtain ⟨s3, rfl⟩ := int_of t3
  exact ⟨⟨s0, s1, s2, s3⟩, rfl, by unfold maxLen at h0; exact h0⟩
/-- A slice of records whose cells are known to be those of some record. -/
theorem recR_of {α : Type} [Inhabited α] {f : α → List Value} {s len : Nat} {a : Addr} {p : α → Prop} (hs : 0 < s) (hf : ∀ x, (f x).length = s) (h : ∀ i, i < len → ∃ x : α, (∀ j u, (f x)[j]? = some u → w.cell? (a.add (i * s + j)) = some u) ∧ p x) :
    ∃ l, RecR f s w w.heap.size (some a) len l ∧ ∀ x ∈ l, p x := by
  obtain ⟨U, hlen, hU⟩ := list_of (α := α) (n := len) (p := fun i x => (∀ j u, (f x)[j]? = some u → w.cell? (a.add (i * s + j)) = some u) ∧ p x) h
  refine ⟨U, ⟨⟨by rw [flat_len hf, hlen], fun hn => ⟨a, rfl, ?_, fun j u hu => ?_⟩⟩, hlen⟩, fun x hx => ?_⟩
  · have hl0 : 0 < (f U[0]).length := by rw [hf]; exact hs
    have h0 := (hU 0 U[0] (List.getElem?_eq_getElem (by omega))).1 0 _ (List.getElem?_eq_getElem hl0)
    have := World.block_lt_of_cell? w _ h0
    rw [block_of_add] at this
    exact this
  · have hjl : j < len * s := by have := (List.getElem?_eq_some_iff.1 hu).1; rw [flat_len hf, hlen] at this; exact this
    have hk : j / s < U.length := by rw [hlen]; exact Nat.div_lt_of_lt_mul (by rw [Nat.mul_comm]; exact hjl)
    have hp := List.getElem?_eq_getElem hk
    have e : j / s * s + j % s = j := by rw [Nat.mul_comm]; exact Nat.div_add_mod j s
    have h1 := flat_at (f := f) hf hp (Nat.mod_lt j hs)
    rw [e, hu] at h1
    have := (hU (j / s) _ hp).1 (j % s) u h1.symm
    rw [e] at this
    exact this
  · obtain ⟨i, hi⟩ := List.getElem?_of_mem hx
    exact (hU i x hi).2
theorem open_NotesR (hf : DataW.trod enc Tryz.prog w 0 spare held fuel 36 [v] = some x) : ∃ A n c l, v = .slice A n c ∧ NotesR w w.heap.size A n l ∧ n ≤ maxLen := by
  rcases open_slice Tryz.underlying36 hf with ⟨h0, _⟩ | ⟨a, len, cap, m, n, D, Pl, h0, _, hl, hm, hmm, _, hx⟩
  · injection h0 with h0
    subst h0
    exact ⟨none, 0, 0, [], rfl, RecR.none_, Nat.zero_le _⟩
  · injection h0 with h0
    subst h0
    have hlm : len ≤ m := by rw [hmm]; split <;> omega
    have hce : Tryz.prog.cellsOf 58 = 7 := by kernel_rfl
    rw [hce] at hx
    obtain ⟨l, hr, _⟩ := recR_of (w := w) (α := Nt) (f := encN) (s := 7) (len := len) (a := a) (p := fun _ => True) (by omega) encN_len (fun i hi => by
      obtain ⟨cs, h1, h2⟩ := hx i (by omega)
      obtain ⟨_, hcl7, hcc⟩ := World.cells?_some h1
      obtain ⟨c0, c1, c2, c3, c4, c5, c6, rfl⟩ : ∃ c0 c1 c2 c3 c4 c5 c6, cs = [c0, c1, c2, c3, c4, c5, c6] := by
        match cs, hcl7 with
        | [c0, c1, c2, c3, c4, c5, c6], _ => exact ⟨c0, c1, c2, c3, c4, c5, c6, rfl⟩
      obtain ⟨y, hy⟩ := note_of h2
      refine ⟨y, fun j u hu => ?_, trivial⟩
      rw [← hy] at hu
      have hj : j < 7 := (List.getElem?_eq_some_iff.1 hu).1
      have := hcc j (by simpa using hj)
      rw [add_of_add] at this
      rw [this]
      exact hu)
    exact ⟨some a, len, cap, l, rfl, hr, by omega⟩
theorem open_TiersR (hf : DataW.trod enc Tryz.prog w 0 spare held fuel 35 [v] = some x) : ∃ A n c l, v = .slice A n c ∧ TiersR w w.heap.size A n l ∧ n ≤ maxLen := by
  rcases open_slice Tryz.underlying35 hf with ⟨h0, _⟩ | ⟨a, len, cap, m, n, D, Pl, h0, _, hl, hm, hmm, _, hx⟩
  · injection h0 with h0
    subst h0
    exact ⟨none, 0, 0, [], rfl, ⟨RecR.none_, fun _ h => by cases h⟩, Nat.zero_le _⟩
  · injection h0 with h0
    subst h0
    have hlm : len ≤ m := by rw [hmm]; split <;> omega
    have hce : Tryz.prog.cellsOf 86 = 4 := by kernel_rfl
    rw [hce] at hx
    obtain ⟨l, hr, hp⟩ := recR_of (w := w) (α := Ti) (f := encT) (s := 4) (len := len) (a := a) (p := fun t => t.name.size ≤ 9223372036854775807) (by omega) encT_len (fun i hi => by
      obtain ⟨cs, h1, h2⟩ := hx i (by omega)
      obtain ⟨_, hcl4, hcc⟩ := World.cells?_some h1
      obtain ⟨c0, c1, c2, c3, rfl⟩ : ∃ c0 c1 c2 c3, cs = [c0, c1, c2, c3] := by
        match cs, hcl4 with
        | [c0, c1, c2, c3], _ => exact ⟨c0, c1, c2, c3, rfl⟩
      obtain ⟨y, hy, hyn⟩ := tier_of h2
      refine ⟨y, fun j u hu => ?_, hyn⟩
      rw [← hy] at hu
      have hj : j < 4 := (List.getElem?_eq_some_iff.1 hu).1
      have := hcc j (by simpa using hj)
      rw [add_of_add] at this
      rw [this]
      exact hu)
    exact ⟨some a, len, cap, l, rfl, ⟨hr, hp⟩, by omega⟩
/-- The cells of a document. -/
theorem doc_of {c0 c1 c2 c3 c4 c5 c6 : Value} (h : DataW.trod enc Tryz.prog w 0 spare held fuel 38 [c0, c1, c2, c3, c4, c5, c6] = some x) :
    ∃ (d : Dv) (T : List Ti) (l : List Nt), [c0, c1, c2, c3, c4, c5, c6] = [.int .i64 d.rid, .string d.name, .int .i64 d.len, .int .i64 d.day, .slice d.sa d.sn d.sc, .slice d.ta d.tn d.tc, .slice d.na d.nn d.nc] ∧ TiersR w w.heap.size d.ta d.tn T ∧ NotesR w w.heap.size d.na d.nn l ∧ d.nn ≤ 9223372036854775807 := by
  have hcp : Tryz.prog.cellsOf 34 = 5 := by kernel_rfl
  have hci : Tryz.prog.cellsOf 3 = 1 := by kernel_rfl
  have hcs : Tryz.prog.cellsOf 9 = 1 := by kernel_rfl
  have hc1 : Tryz.prog.cellsOf 32 = 1 := by kernel_rfl
  have hc2 : Tryz.prog.cellsOf 35 = 1 := by kernel_rfl
  have hc3 : Tryz.prog.cellsOf 36 = 1 := by kernel_rfl
  obtain ⟨n, hs⟩ := trod_fields Tryz.underlying38 h
  obtain ⟨_, t0⟩ : ∃ y, DataW.trod enc Tryz.prog w 0 spare held n 34 (([c0, c1, c2, c3, c4, c5, c6].drop 0).take (Tryz.prog.cellsOf 34)) = some y := hs 0 _ rfl
  obtain ⟨_, t1⟩ : ∃ y, DataW.trod enc Tryz.prog w 0 spare held n 35 (([c0, c1, c2, c3, c4, c5, c6].drop 5).take (Tryz.prog.cellsOf 35)) = some y := hs 1 _ rfl
  obtain ⟨_, t2⟩ : ∃ y, DataW.trod enc Tryz.prog w 0 spare held n 36 (([c0, c1, c2, c3, c4, c5, c6].drop 6).take (Tryz.prog.cellsOf 36)) = some y := hs 2 _ rfl
  simp only [hcp, hc2, hc3, List.drop, List.take] at t0 t1 t2
  obtain ⟨n2, hr⟩ := trod_fields Tryz.underlying34 t0
  obtain ⟨_, r0⟩ : ∃ y, DataW.trod enc Tryz.prog w 0 spare held n2 3 (([c0, c1, c2, c3, c4].drop 0).take (Tryz.prog.cellsOf 3)) = some y := hr 0 _ rfl
  obtain ⟨_, r1⟩ : ∃ y, DataW.trod enc Tryz.prog w 0 spare held n2 9 (([c0, c1, c2, c3, c4].drop 1).take (Tryz.prog.cellsOf 9)) = some y := hr 1 _ rfl
  obtain ⟨_, r2⟩ : ∃ y, DataW.trod enc Tryz.prog w 0 spare held n2 3 (([c0, c1, c2, c3, c4].drop 2).take (Tryz.prog.cellsOf 3)) = some y := hr 2 _ rfl
  obtain ⟨_, r3⟩ : ∃ y, DataW.trod enc Tryz.prog w 0 spare held n2 3 (([c0, c1, c2, c3, c4].drop 3).take (Tryz.prog.cellsOf 3)) = some y := hr 3 _ rfl
  obtain ⟨_, r4⟩ : ∃ y, DataW.trod enc Tryz.prog w 0 spare held n2 32 (([c0, c1, c2, c3, c4].drop 4).take (Tryz.prog.cellsOf 32)) = some y := hr 4 _ rfl
  simp only [hci, hcs, hc1, List.drop, List.take] at r0 r1 r2 r3 r4
  obtain ⟨s0, rfl⟩ := int_of r0
  obtain ⟨s1, rfl, _⟩ := str_of r1
  obtain ⟨s2, rfl⟩ := int_of r2
  obtain ⟨s3, rfl⟩ := int_of r3
  obtain ⟨sa, sn, sc, _, rfl, _, _⟩ := open_ints r4
  obtain ⟨ta, tn, tc, T, rfl, hT, _⟩ := open_TiersR t1
  obtain ⟨na, nn, nc, l, rfl, hl, hn⟩ := open_NotesR t2
  exact ⟨⟨s0, s1, s2, s3, sa, sn, sc, ta, tn, tc, na, nn, nc⟩, T, l, rfl, hT, hl, by unfold maxLen at hn; exact hn⟩
set_option maxRecDepth 100000 in
theorem open_doc {r : Reach} {b0 : Nat} {d : DataW H} {p : List MemPlace} (hv : Value.okWide Tryz.prog w r b0 38 v) (h : DataW.Trod enc Tryz.prog w 0 spare held 38 v d p) :
    ∃ (d : Dv) (T : List Ti) (l : List Nt), v = docV d ∧ TiersR w w.heap.size d.ta d.tn T ∧ NotesR w w.heap.size d.na d.nn l ∧ d.nn ≤ 9223372036854775807 := by
  obtain ⟨cs, rfl, hsz⟩ := okWide_struct Tryz.underlying38 hv
  have hce : Tryz.prog.cellsOf 38 = 7 := by kernel_rfl
  obtain ⟨c0, c1, c2, c3, c4, c5, c6, rfl⟩ := array7 (hsz.trans hce)
  obtain ⟨fuel, hf⟩ := h
  obtain ⟨d, T, l, e, hT, hl, hn⟩ := doc_of (c0 := c0) (c1 := c1) (c2 := c2) (c3 := c3) (c4 := c4) (c5 := c5) (c6 := c6) hf
  refine ⟨d, T, l, ?_, hT, hl, hn⟩
  unfold docV
  have e2 := congrArg (fun l : List Value => Value.agg l.toArray) e
  exact e2
end
end Go.Proofs.YthcabnfcgjnlnaaGreatDoor
