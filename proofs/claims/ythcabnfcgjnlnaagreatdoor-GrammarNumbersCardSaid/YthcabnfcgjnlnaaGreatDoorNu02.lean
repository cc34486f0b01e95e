import Derived.Test.YthcabnfcgjnlnaaGreatDoorNu01
/-
  GrammarNumbers: the law, walked.
-/
namespace Go.Proofs.YthcabnfcgjnlnaaGreatDoor
open Go.RowKit Ru Lay
attribute [local go_sem ↓] Go.wp_at_zero Go.wp_at_succ
set_option linter.unusedVariables false
set_option linter.unusedSimpArgs false

theorem refs38_same (A B : Option Addr) (n m c d : Nat) (xs : List Rf) (w : World) (ha : RefsR w w.heap.size A n xs) (hb : RefsR w w.heap.size B m xs) (hn : n ≤ 9223372036854775807) (hm : m ≤ 9223372036854775807) :
    Calls Tryz.prog 12 #[.slice A n c, .slice B m d] w fun e w' => e = .returned (.bool true) ∧ Below w.heap.size w w' :=
  (refs38_any A B n m c d xs xs w ha hb hn hm).mono fun e w' ⟨h1, h2⟩ => ⟨by rw [h1, decide_eq_true rfl], h2⟩
theorem few_all {n : Nat} {L : List Pt} (hl : L.length = n) (hn : n ≤ 45) (h : ∀ p ∈ L, FewP p) (hr : ∀ p ∈ L, p.refs.length = p.rn) : (allR L).length ≤ 1000000 := by
  have h1 := allR_le (k := 20) fun p hp => by have := (h p hp).2.2; rw [hr p hp]; exact this
  have h2 : L.length * 20 ≤ 45 * 20 := Nat.mul_le_mul_right 20 (by omega)
  omega
set_option maxHeartbeats 4000000 in
set_option maxRecDepth 100000 in
theorem grammarNumbers_any (A : Option Addr) (n c : Nat) (L : List Pt) (r1 r2 : Int) (w : World) (hP : PtsR w w.heap.size A n L) (hn : n ≤ 9223372036854775807) (hr : RfOk (r1, r2)) (htb : Tabs w) (hpw : Pow w) :
    Calls Tryz.prog 3 #[.slice A n c, .agg #[.int .i64 r1, .int .i64 r2]] w fun e w' => e = .returned (.bool true) ∧ Below w.heap.size w w' := by
  obtain ⟨W0, hW0⟩ : ∃ W0, w.alloc (.cells #[.int .i64 r1, .int .i64 r2] 24) = W0 := ⟨_, rfl⟩
  have HB : Hid (Below w.heap.size w W0) := by rw [← hW0]; exact (Below.refl _ w).alloc (Nat.le_refl _) _
  have hz0 : W0.heap.size = w.heap.size + 1 := by rw [← hW0]; simp
  have HRR : Hid (∀ W, Below W0.heap.size W0 W → W.rangeAt w.heap.size 0 [.int .i64 r1, .int .i64 r2]) := fun W hW j v hv => by
    rw [hW.cell (p := ⟨w.heap.size, 0 + j, none⟩) (by show w.heap.size < _; omega), ← hW0, Nat.zero_add, World.cell?_alloc_new, ← hv, ← List.getElem?_toArray]
  have HA := Lib.hid fun (W : World) (hW : Below W0.heap.size W0 W) => awake55_any W (htb.on (HB.out.trans (hW.mono HB.out.size))) (hpw.on (HB.out.trans (hW.mono HB.out.size)))
  have HF := Lib.hid (few55_any A n c L W0 (hP.on HB.out) hn)
  have HPT := Lib.hid fun (W : World) (hW : Below W0.heap.size W0 W) => hP.on (HB.out.trans (hW.mono HB.out.size))
  have HLN := Lib.hid hP.len
  have HRN : Hid (∀ p ∈ L, p.refs.length = p.rn) := fun p hp => (hP.2 p hp).refs.len
  have HRO := Lib.hid hr
  clear hP htb hpw hr
  go_enter Tryz.func3, Tryz.ntmps3
  go_upto_region 1 with fail
  (try rw [hW0])
  clear hW0
  go_wp2_with fail
  refine HF.out.mono ?_
  intro e w3 hfp
  obtain ⟨b, rfl, hlf, rfl⟩ := hfp
  have HLF := Lib.hid hlf
  clear hlf HF
  cases b with
  | false =>
    go_wp2_with fail
    refine (HA.out _ (Below.refl _ _)).mono ?_
    rintro e w5 ⟨rfl, hb5⟩
    have HB5 : Hid (Below w.heap.size w w5) := HB.out.trans (hb5.mono HB.out.size)
    clear hb5
    go_wp2
    go_ret
    exact ⟨rfl, HB5.out⟩
  | true =>
    obtain ⟨hn45, hfew⟩ := HLF.out rfl
    have hz := few_all HLN.out hn45 hfew HRN.out
    have HN1 := Lib.hid fun (W : World) (hW : Below W0.heap.size W0 W) => gnumbers_any A n c L W (HPT.out W hW) (by omega) hz
    have HN2 := Lib.hid fun (W : World) (hW : Below W0.heap.size W0 W) => refNumbers_any A n c L W (HPT.out W hW) (by omega) hz
    have HG1 := Lib.hid fun (W : World) (hW : Below W0.heap.size W0 W) => gnumber_any A n c L r1 r2 W (HPT.out W hW) HRO.out (by omega) hz
    have HG2 := Lib.hid fun (W : World) (hW : Below W0.heap.size W0 W) => refNumber_any A n c L r1 r2 W (HPT.out W hW) (by omega) hz
    obtain ⟨k, hk⟩ : ∃ k, numR (numsF [] (allR L)) (r1, r2) = k := ⟨_, rfl⟩
    rw [hk] at HG1 HG2
    clear hn45 hfew hz hk HLF
    go_upto_region 3 with fail
    refine wp_region_told [Told.is (.slice A n c), Told.such (fun v W => RfO W W0.heap.size v (numsF [] (allR L))) (fun v W W' h hb => h.on hb), Told.is (.slice A n c), Told.such (fun v W => RfO W W0.heap.size v (numsF [] (allR L))) (fun v W W' h hb => h.on hb), Told.is (.bool true), Told.is (.bool true), Told.is (.slice A n c), Told.is (.agg #[.int .i64 r1, .int .i64 r2]), Told.is (.int .i64 k), Told.is (.slice A n c), Told.is (.agg #[.int .i64 r1, .int .i64 r2]), Told.is (.int .i64 k), Told.is (.bool true), Told.is (.bool true), Told.is (.bool true), Told.is (.bool true), Told.is (.bool true), Told.is (.bool true)] (by kernel_rfl) (by kernel_rfl) ?_ ?_
    · refine And.intro (fun w1 vals hB hd K hK => ?_) ?_
      · clear hd
        simp only [putAll, Act.put, List.setIfInBounds_toArray, List.set_cons_zero, List.set_cons_succ] at hK ⊢
        obtain ⟨ve, hve⟩ : ∃ f : Nat → Value, f = vals := ⟨_, rfl⟩
        rw [← hve] at hK  ⊢
        clear hve
        refine gwp_none rfl ?_
        go_simp
        exact hK _ _ rfl (Below.refl _ _)
      refine And.intro (fun w1 vals hB hd K hK => ?_) ?_
      · have e0 : vals 0 = .slice A n c := told_at (hd 0 rfl) rfl
        clear hd
        simp only [putAll, Act.put, List.setIfInBounds_toArray, List.set_cons_zero, List.set_cons_succ] at hK ⊢
        simp only [e0] at hK ⊢
        obtain ⟨ve, hve⟩ : ∃ f : Nat → Value, f = vals := ⟨_, rfl⟩
        rw [← hve] at hK  ⊢
        clear e0 hve
        refine gwp_none rfl ?_
        go_simp
        refine (HN1.out w1 hB).mono ?_
        rintro e w4 ⟨v, rfl, hO, hb4⟩
        exact hK _ _ (own_base hO hB.size) hb4
      refine And.intro (fun w1 vals hB hd K hK => ?_) ?_
      · clear hd
        simp only [putAll, Act.put, List.setIfInBounds_toArray, List.set_cons_zero, List.set_cons_succ] at hK ⊢
        obtain ⟨ve, hve⟩ : ∃ f : Nat → Value, f = vals := ⟨_, rfl⟩
        rw [← hve] at hK  ⊢
        clear hve
        refine gwp_none rfl ?_
        go_simp
        exact hK _ _ rfl (Below.refl _ _)
      refine And.intro (fun w1 vals hB hd K hK => ?_) ?_
      · have e2 : vals 2 = .slice A n c := told_at (hd 2 rfl) rfl
        clear hd
        simp only [putAll, Act.put, List.setIfInBounds_toArray, List.set_cons_zero, List.set_cons_succ] at hK ⊢
        simp only [e2] at hK ⊢
        obtain ⟨ve, hve⟩ : ∃ f : Nat → Value, f = vals := ⟨_, rfl⟩
        rw [← hve] at hK  ⊢
        clear e2 hve
        refine gwp_none rfl ?_
        go_simp
        refine (HN2.out w1 hB).mono ?_
        rintro e w4 ⟨v, rfl, hO, hb4⟩
        exact hK _ _ (own_base hO hB.size) hb4
      refine And.intro (fun w1 vals hB hd K hK => ?_) ?_
      · have p1 := told_at (t := Told.such (fun v W => RfO W W0.heap.size v (numsF [] (allR L))) (fun v W W' h hb => h.on hb)) (hd 1 rfl) rfl
        simp only [Told.holds] at p1
        have p3 := told_at (t := Told.such (fun v W => RfO W W0.heap.size v (numsF [] (allR L))) (fun v W W' h hb => h.on hb)) (hd 3 rfl) rfl
        simp only [Told.holds] at p3
        clear hd
        obtain ⟨x1, hx1⟩ : ∃ x, vals 1 = x := ⟨_, rfl⟩
        rw [hx1] at p1
        obtain ⟨x3, hx3⟩ : ∃ x, vals 3 = x := ⟨_, rfl⟩
        rw [hx3] at p3
        simp only [putAll, Act.put, List.setIfInBounds_toArray, List.set_cons_zero, List.set_cons_succ] at hK ⊢
        simp only [hx1, hx3] at hK ⊢
        obtain ⟨ve, hve⟩ : ∃ f : Nat → Value, f = vals := ⟨_, rfl⟩
        rw [← hve] at hK  ⊢
        clear hx1 hx3 hve
        refine gwp_none rfl ?_
        obtain ⟨A1, c1, rfl, h1a, h1b, h1r⟩ := RfO.form p1
        obtain ⟨A2, c2, rfl, h2a, h2b, h2r⟩ := RfO.form p3
        go_simp
        refine (refs38_same A1 A2 _ _ c1 c2 _ w1 h1r h2r (by omega) (by omega)).mono ?_
        rintro e w4 ⟨rfl, hb4⟩
        exact hK _ _ rfl hb4
      refine And.intro (fun w1 vals hB hd K hK => ?_) ?_
      · have e4 : vals 4 = .bool true := told_at (hd 4 rfl) rfl
        clear hd
        simp only [putAll, Act.put, List.setIfInBounds_toArray, List.set_cons_zero, List.set_cons_succ] at hK ⊢
        simp only [e4] at hK ⊢
        obtain ⟨ve, hve⟩ : ∃ f : Nat → Value, f = vals := ⟨_, rfl⟩
        rw [← hve] at hK  ⊢
        clear e4 hve
        refine gwp_none rfl ?_
        go_simp
        exact hK _ _ rfl (Below.refl _ _)
      refine And.intro (fun w1 vals hB hd K hK => ?_) ?_
      · have g5 : vals 5 = .bool true := told_at (hd 5 rfl) rfl
        clear hd
        simp only [putAll, Act.put, List.setIfInBounds_toArray, List.set_cons_zero, List.set_cons_succ] at hK ⊢
        obtain ⟨ve, hve⟩ : ∃ f : Nat → Value, f = vals := ⟨_, rfl⟩
        rw [← hve] at hK g5 ⊢
        clear hve
        refine gwp_some rfl g5 ?_
        clear g5
        go_simp
        exact hK _ _ rfl (Below.refl _ _)
      refine And.intro (fun w1 vals hB hd K hK => ?_) ?_
      · have g5 : vals 5 = .bool true := told_at (hd 5 rfl) rfl
        clear hd
        simp only [putAll, Act.put, List.setIfInBounds_toArray, List.set_cons_zero, List.set_cons_succ] at hK ⊢
        obtain ⟨ve, hve⟩ : ∃ f : Nat → Value, f = vals := ⟨_, rfl⟩
        rw [← hve] at hK g5 ⊢
        clear hve
        refine gwp_some rfl g5 ?_
        clear g5
        refine wp_load_mid 24 (.tmp 3) rfl w.heap.size 0 rfl [.int .i64 r1, .int .i64 r2] _ (HRR.out w1 hB) Tryz.underlying24 rfl (by kernel_rfl) ?_
        simp only [Act.put, List.setIfInBounds_toArray, List.set_cons_zero, List.set_cons_succ]
        exact hK _ _ rfl (Below.refl _ _)
      refine And.intro (fun w1 vals hB hd K hK => ?_) ?_
      · have e6 : vals 6 = .slice A n c := told_at (hd 6 rfl) rfl
        have e7 : vals 7 = .agg #[.int .i64 r1, .int .i64 r2] := told_at (hd 7 rfl) rfl
        have g5 : vals 5 = .bool true := told_at (hd 5 rfl) rfl
        clear hd
        simp only [putAll, Act.put, List.setIfInBounds_toArray, List.set_cons_zero, List.set_cons_succ] at hK ⊢
        simp only [e6, e7] at hK ⊢
        obtain ⟨ve, hve⟩ : ∃ f : Nat → Value, f = vals := ⟨_, rfl⟩
        rw [← hve] at hK g5 ⊢
        clear e6 e7 hve
        refine gwp_some rfl g5 ?_
        clear g5
        go_simp
        refine (HG1.out w1 hB).mono ?_
        rintro e w4 ⟨rfl, hb4⟩
        exact hK _ _ rfl hb4
      refine And.intro (fun w1 vals hB hd K hK => ?_) ?_
      · have g5 : vals 5 = .bool true := told_at (hd 5 rfl) rfl
        clear hd
        simp only [putAll, Act.put, List.setIfInBounds_toArray, List.set_cons_zero, List.set_cons_succ] at hK ⊢
        obtain ⟨ve, hve⟩ : ∃ f : Nat → Value, f = vals := ⟨_, rfl⟩
        rw [← hve] at hK g5 ⊢
        clear hve
        refine gwp_some rfl g5 ?_
        clear g5
        go_simp
        exact hK _ _ rfl (Below.refl _ _)
      refine And.intro (fun w1 vals hB hd K hK => ?_) ?_
      · have g5 : vals 5 = .bool true := told_at (hd 5 rfl) rfl
        clear hd
        simp only [putAll, Act.put, List.setIfInBounds_toArray, List.set_cons_zero, List.set_cons_succ] at hK ⊢
        obtain ⟨ve, hve⟩ : ∃ f : Nat → Value, f = vals := ⟨_, rfl⟩
        rw [← hve] at hK g5 ⊢
        clear hve
        refine gwp_some rfl g5 ?_
        clear g5
        refine wp_load_mid 24 (.tmp 3) rfl w.heap.size 0 rfl [.int .i64 r1, .int .i64 r2] _ (HRR.out w1 hB) Tryz.underlying24 rfl (by kernel_rfl) ?_
        simp only [Act.put, List.setIfInBounds_toArray, List.set_cons_zero, List.set_cons_succ]
        exact hK _ _ rfl (Below.refl _ _)
      refine And.intro (fun w1 vals hB hd K hK => ?_) ?_
      · have e9 : vals 9 = .slice A n c := told_at (hd 9 rfl) rfl
        have e10 : vals 10 = .agg #[.int .i64 r1, .int .i64 r2] := told_at (hd 10 rfl) rfl
        have g5 : vals 5 = .bool true := told_at (hd 5 rfl) rfl
        clear hd
        simp only [putAll, Act.put, List.setIfInBounds_toArray, List.set_cons_zero, List.set_cons_succ] at hK ⊢
        simp only [e9, e10] at hK ⊢
        obtain ⟨ve, hve⟩ : ∃ f : Nat → Value, f = vals := ⟨_, rfl⟩
        rw [← hve] at hK g5 ⊢
        clear e9 e10 hve
        refine gwp_some rfl g5 ?_
        clear g5
        go_simp
        refine (HG2.out w1 hB).mono ?_
        rintro e w4 ⟨rfl, hb4⟩
        exact hK _ _ rfl hb4
      refine And.intro (fun w1 vals hB hd K hK => ?_) ?_
      · have e8 : vals 8 = .int .i64 k := told_at (hd 8 rfl) rfl
        have e11 : vals 11 = .int .i64 k := told_at (hd 11 rfl) rfl
        have g5 : vals 5 = .bool true := told_at (hd 5 rfl) rfl
        clear hd
        simp only [putAll, Act.put, List.setIfInBounds_toArray, List.set_cons_zero, List.set_cons_succ] at hK ⊢
        simp only [e8, e11] at hK ⊢
        obtain ⟨ve, hve⟩ : ∃ f : Nat → Value, f = vals := ⟨_, rfl⟩
        rw [← hve] at hK g5 ⊢
        clear e8 e11 hve
        refine gwp_some rfl g5 ?_
        clear g5
        have hkk : (k == k) = true := beq_self_eq_true k
        go_simp
        exact hK _ _ rfl (Below.refl _ _)
      refine And.intro (fun w1 vals hB hd K hK => ?_) ?_
      · have e5 : vals 5 = .bool true := told_at (hd 5 rfl) rfl
        have e12 : vals 12 = .bool true := told_at (hd 12 rfl) rfl
        clear hd
        simp only [putAll, Act.put, List.setIfInBounds_toArray, List.set_cons_zero, List.set_cons_succ] at hK ⊢
        simp only [e5, e12] at hK ⊢
        obtain ⟨ve, hve⟩ : ∃ f : Nat → Value, f = vals := ⟨_, rfl⟩
        rw [← hve] at hK  ⊢
        clear e5 e12 hve
        refine gwp_none rfl ?_
        go_simp
        exact hK _ _ rfl (Below.refl _ _)
      refine And.intro (fun w1 vals hB hd K hK => ?_) ?_
      · have e13 : vals 13 = .bool true := told_at (hd 13 rfl) rfl
        clear hd
        simp only [putAll, Act.put, List.setIfInBounds_toArray, List.set_cons_zero, List.set_cons_succ] at hK ⊢
        simp only [e13] at hK ⊢
        obtain ⟨ve, hve⟩ : ∃ f : Nat → Value, f = vals := ⟨_, rfl⟩
        rw [← hve] at hK  ⊢
        clear e13 hve
        refine gwp_none rfl ?_
        go_simp
        exact hK _ _ rfl (Below.refl _ _)
      refine And.intro (fun w1 vals hB hd K hK => ?_) ?_
      · have g14 : vals 14 = .bool true := told_at (hd 14 rfl) rfl
        clear hd
        simp only [putAll, Act.put, List.setIfInBounds_toArray, List.set_cons_zero, List.set_cons_succ] at hK ⊢
        obtain ⟨ve, hve⟩ : ∃ f : Nat → Value, f = vals := ⟨_, rfl⟩
        rw [← hve] at hK g14 ⊢
        clear hve
        refine gwp_some rfl g14 ?_
        clear g14
        go_simp
        refine (HA.out w1 hB).mono ?_
        rintro e w4 ⟨rfl, hb4⟩
        exact hK _ _ rfl hb4
      refine And.intro (fun w1 vals hB hd K hK => ?_) ?_
      · have e14 : vals 14 = .bool true := told_at (hd 14 rfl) rfl
        have e15 : vals 15 = .bool true := told_at (hd 15 rfl) rfl
        clear hd
        simp only [putAll, Act.put, List.setIfInBounds_toArray, List.set_cons_zero, List.set_cons_succ] at hK ⊢
        simp only [e14, e15] at hK ⊢
        obtain ⟨ve, hve⟩ : ∃ f : Nat → Value, f = vals := ⟨_, rfl⟩
        rw [← hve] at hK  ⊢
        clear e14 e15 hve
        refine gwp_none rfl ?_
        go_simp
        exact hK _ _ rfl (Below.refl _ _)
      refine And.intro (fun w1 vals hB hd K hK => ?_) ?_
      · have e16 : vals 16 = .bool true := told_at (hd 16 rfl) rfl
        clear hd
        simp only [putAll, Act.put, List.setIfInBounds_toArray, List.set_cons_zero, List.set_cons_succ] at hK ⊢
        simp only [e16] at hK ⊢
        obtain ⟨ve, hve⟩ : ∃ f : Nat → Value, f = vals := ⟨_, rfl⟩
        rw [← hve] at hK  ⊢
        clear e16 hve
        refine gwp_none rfl ?_
        go_simp
        exact hK _ _ rfl (Below.refl _ _)
      exact trivial
    · intro w1 vals hB hd
      have e17 : vals 17 = .bool true := told_at (hd 17 (by decide)) rfl
      clear hd
      simp only [putAll, Act.put, List.setIfInBounds_toArray, List.set_cons_zero, List.set_cons_succ]
      simp only [e17]
      obtain ⟨ve, hve⟩ : ∃ f : Nat → Value, f = vals := ⟨_, rfl⟩
      rw [← hve]
      clear e17 hve
      have HBE : Hid (Below w.heap.size w w1) := HB.out.trans (hB.mono HB.out.size)
      clear hB
      go_wp2
      go_ret
      exact ⟨rfl, HBE.out⟩
end Go.Proofs.YthcabnfcgjnlnaaGreatDoor
/-
  OPENING statements and references among the arguments.
-/
namespace Go.Proofs.YthcabnfcgjnlnaaGreatDoor
open Go.RowKit Go.ChangeShapes Go.WideShapes Go.ChangeAt Go.Deep Go.Joins Ru Lay
set_option linter.unusedVariables false
set_option linter.unusedSimpArgs false

section
variable {H : Type} {enc : TypeId × Value → H} {w : World} {spare : Nat → Bool} {held : Bool} {fuel : Nat} {v : Value} {x : DataW H × List MemPlace}
instance : Inhabited Pt := ⟨⟨0, ⟨#[]⟩, ⟨#[]⟩, none, 0, 0, none, 0, 0, []⟩⟩
theorem intw_of {c : Value} (h : DataW.trod enc Tryz.prog w 0 spare held fuel 3 [c] = some x) : ∃ s, c = .int .i64 s ∧ (Lit.int .i64 s).wf = true := by
  obtain ⟨s, e, _, hw⟩ := DataW.trod_int Tryz.underlying3 h
  injection e with e
  exact ⟨s, e, hw⟩
theorem ref_of {c0 c1 : Value} (h : DataW.trod enc Tryz.prog w 0 spare held fuel 24 [c0, c1] = some x) : ∃ r : Rf, [c0, c1] = encR r ∧ RfOk r := by
  have hci : Tryz.prog.cellsOf 3 = 1 := by kernel_rfl
  obtain ⟨n, hs⟩ := trod_fields Tryz.underlying24 h
  obtain ⟨_, t0⟩ : ∃ y, DataW.trod enc Tryz.prog w 0 spare held n 3 (([c0, c1].drop 0).take (Tryz.prog.cellsOf 3)) = some y := hs 0 _ rfl
  obtain ⟨_, t1⟩ : ∃ y, DataW.trod enc Tryz.prog w 0 spare held n 3 (([c0, c1].drop 1).take (Tryz.prog.cellsOf 3)) = some y := hs 1 _ rfl
  simp only [hci, List.drop, List.take] at t0 t1
  obtain ⟨s0, rfl, h0⟩ := intw_of t0
  obtain ⟨s1, rfl, h1⟩ := intw_of t1
  exact ⟨(s0, s1), rfl, h0, h1⟩
theorem open_RefsR (hf : DataW.trod enc Tryz.prog w 0 spare held fuel 28 [v] = some x) : ∃ A n c l, v = .slice A n c ∧ RefsR w w.heap.size A n l ∧ (∀ r ∈ l, RfOk r) ∧ n ≤ maxLen := by
  rcases open_slice Tryz.underlying28 hf with ⟨h0, _⟩ | ⟨a, len, cap, m, n, D, Pl, h0, _, hl, hm, hmm, _, hx⟩
  · injection h0 with h0
    subst h0
    exact ⟨none, 0, 0, [], rfl, RecR.none_, fun _ h => (by cases h), Nat.zero_le _⟩
  · injection h0 with h0
    subst h0
    have hlm : len ≤ m := by rw [hmm]; split <;> omega
    have hce : Tryz.prog.cellsOf 24 = 2 := by kernel_rfl
    rw [hce] at hx
    obtain ⟨l, hr, hp⟩ := recR_of (w := w) (α := Rf) (f := encR) (s := 2) (len := len) (a := a) (p := RfOk) (by omega) encR_len (fun i hi => by
      obtain ⟨cs, h1, h2⟩ := hx i (by omega)
      obtain ⟨_, hcl, hcc⟩ := World.cells?_some h1
      obtain ⟨c0, c1, rfl⟩ : ∃ c0 c1, cs = [c0, c1] := by
        match cs, hcl with
        | [c0, c1], _ => exact ⟨c0, c1, rfl⟩
      obtain ⟨y, hy, hyn⟩ := ref_of h2
      refine ⟨y, fun j u hu => ?_, hyn⟩
      rw [← hy] at hu
      have hj : j < 2 := (List.getElem?_eq_some_iff.1 hu).1
      have := hcc j (by simpa using hj)
      rw [add_of_add] at this
      rw [this]
      exact hu)
    exact ⟨some a, len, cap, l, rfl, hr, hp, by omega⟩
theorem point_of {c0 c1 c2 c3 c4 : Value} (h : DataW.trod enc Tryz.prog w 0 spare held fuel 65 [c0, c1, c2, c3, c4] = some x) : ∃ p : Pt, [c0, c1, c2, c3, c4] = encP p ∧ PtR w w.heap.size p := by
  have hci : Tryz.prog.cellsOf 3 = 1 := by kernel_rfl
  have hcs : Tryz.prog.cellsOf 9 = 1 := by kernel_rfl
  have hc1 : Tryz.prog.cellsOf 32 = 1 := by kernel_rfl
  have hc2 : Tryz.prog.cellsOf 28 = 1 := by kernel_rfl
  obtain ⟨n, hs⟩ := trod_fields Tryz.underlying65 h
  obtain ⟨_, t0⟩ : ∃ y, DataW.trod enc Tryz.prog w 0 spare held n 3 (([c0, c1, c2, c3, c4].drop 0).take (Tryz.prog.cellsOf 3)) = some y := hs 0 _ rfl
  obtain ⟨_, t1⟩ : ∃ y, DataW.trod enc Tryz.prog w 0 spare held n 9 (([c0, c1, c2, c3, c4].drop 1).take (Tryz.prog.cellsOf 9)) = some y := hs 1 _ rfl
  obtain ⟨_, t2⟩ : ∃ y, DataW.trod enc Tryz.prog w 0 spare held n 9 (([c0, c1, c2, c3, c4].drop 2).take (Tryz.prog.cellsOf 9)) = some y := hs 2 _ rfl
  obtain ⟨_, t3⟩ : ∃ y, DataW.trod enc Tryz.prog w 0 spare held n 32 (([c0, c1, c2, c3, c4].drop 3).take (Tryz.prog.cellsOf 32)) = some y := hs 3 _ rfl
  obtain ⟨_, t4⟩ : ∃ y, DataW.trod enc Tryz.prog w 0 spare held n 28 (([c0, c1, c2, c3, c4].drop 4).take (Tryz.prog.cellsOf 28)) = some y := hs 4 _ rfl
  simp only [hci, hcs, hc1, hc2, List.drop, List.take] at t0 t1 t2 t3 t4
  obtain ⟨s0, rfl⟩ := int_of t0
  obtain ⟨s1, rfl, h1⟩ := str_of t1
  obtain ⟨s2, rfl, h2⟩ := str_of t2
  obtain ⟨ea, en, ec, _, rfl, _, _⟩ := open_ints t3
  obtain ⟨ra, rn, rc, rs, rfl, hr, hok, hn⟩ := open_RefsR t4
  exact ⟨⟨s0, s1, s2, ea, en, ec, ra, rn, rc, rs⟩, rfl, hr, hok, by unfold maxLen at h1 h2 hn; exact ⟨h1, h2, hn⟩⟩
theorem open_PtsR (hf : DataW.trod enc Tryz.prog w 0 spare held fuel 22 [v] = some x) : ∃ A n c l, v = .slice A n c ∧ PtsR w w.heap.size A n l ∧ n ≤ maxLen := by
  rcases open_slice Tryz.underlying22 hf with ⟨h0, _⟩ | ⟨a, len, cap, m, n, D, Pl, h0, _, hl, hm, hmm, _, hx⟩
  · injection h0 with h0
    subst h0
    exact ⟨none, 0, 0, [], rfl, ⟨RecR.none_, fun _ h => (by cases h)⟩, Nat.zero_le _⟩
  · injection h0 with h0
    subst h0
    have hlm : len ≤ m := by rw [hmm]; split <;> omega
    have hce : Tryz.prog.cellsOf 65 = 5 := by kernel_rfl
    rw [hce] at hx
    obtain ⟨l, hr, hp⟩ := recR_of (w := w) (α := Pt) (f := encP) (s := 5) (len := len) (a := a) (p := PtR w w.heap.size) (by omega) encP_len (fun i hi => by
      obtain ⟨cs, h1, h2⟩ := hx i (by omega)
      obtain ⟨_, hcl, hcc⟩ := World.cells?_some h1
      obtain ⟨c0, c1, c2, c3, c4, rfl⟩ : ∃ c0 c1 c2 c3 c4, cs = [c0, c1, c2, c3, c4] := by
        match cs, hcl with
        | [c0, c1, c2, c3, c4], _ => exact ⟨c0, c1, c2, c3, c4, rfl⟩
      obtain ⟨y, hy, hyn⟩ := point_of h2
      refine ⟨y, fun j u hu => ?_, hyn⟩
      rw [← hy] at hu
      have hj : j < 5 := (List.getElem?_eq_some_iff.1 hu).1
      have := hcc j (by simpa using hj)
      rw [add_of_add] at this
      rw [this]
      exact hu)
    exact ⟨some a, len, cap, l, rfl, ⟨hr, hp⟩, by omega⟩
set_option maxRecDepth 100000 in
theorem open_ref {r : Reach} {b0 : Nat} {d : DataW H} {p : List MemPlace} (hv : Value.okWide Tryz.prog w r b0 24 v) (h : DataW.Trod enc Tryz.prog w 0 spare held 24 v d p) :
    ∃ r1 r2 : Int, v = .agg #[.int .i64 r1, .int .i64 r2] ∧ RfOk (r1, r2) := by
  obtain ⟨cs, rfl, hsz⟩ := okWide_struct Tryz.underlying24 hv
  have hce : Tryz.prog.cellsOf 24 = 2 := by kernel_rfl
  obtain ⟨c0, c1, rfl⟩ : ∃ c0 c1, cs = #[c0, c1] := by
    have h2 := hsz.trans hce
    obtain ⟨l⟩ := cs
    match l, h2 with
    | [c0, c1], _ => exact ⟨c0, c1, rfl⟩
  obtain ⟨fuel, hf⟩ := h
  obtain ⟨r, e, hok⟩ := ref_of (c0 := c0) (c1 := c1) hf
  exact ⟨r.1, r.2, congrArg (fun l : List Value => Value.agg l.toArray) e, hok⟩
end
end Go.Proofs.YthcabnfcgjnlnaaGreatDoor
