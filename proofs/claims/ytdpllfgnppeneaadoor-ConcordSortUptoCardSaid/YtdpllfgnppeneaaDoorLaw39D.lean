/-
  ConcordSort: the law, walked.
-/
import Derived.Test.YtdpllfgnppeneaaDoorLaw39C
import Derived.Test.YtdpllfgnppeneaaDoorRefSort39
import Derived.Test.YtdpllfgnppeneaaDoorSortL39
import Derived.Test.YtdpllfgnppeneaaDoorSameH
namespace Go.Proofs.YtdpllfgnppeneaaDoor
open Go.RowKit Ru Lay Srt Col
attribute [local go_sem ↓] Go.wp_at_zero Go.wp_at_succ
set_option linter.unusedVariables false
set_option linter.unusedSimpArgs false

set_option maxHeartbeats 8000000 in
set_option maxRecDepth 100000 in
theorem concordSort_any (SA UA LA : Option Addr) (sn sc un uc ln lc : Nat) (nm : ByteArray) (S : List (ByteArray × Int)) (U : List (ByteArray × List Int)) (L : List (List ByteArray)) (A : Option Addr) (n c : Nat) (l : List Hv) (w : World) (hS : SegsR w w.heap.size SA sn S) (hU : UnitsR w w.heap.size UA un U) (hL : RowsR w w.heap.size LA ln L)
    (hB : Bulk39 S nm U L) (hz : SizedL L) (hl : HitsR w w.heap.size A n l) (hn : n ≤ 9223372036854775807) (hT : Tabs w) :
    Calls Tryd.prog 4 #[.agg #[.slice SA sn sc], .agg #[.string nm, .slice UA un uc, .slice LA ln lc], .slice A n c] w fun e w' => e = .returned (.bool true) ∧ Below w.heap.size w w' := by
  have HAW := Lib.hid fun (W : World) (hW : Below w.heap.size w W) => awake39_any W (hT.on hW)
  have HRT := Lib.hid fun (W : World) (hW : Below w.heap.size w W) (r : Bool) (h : right39 S nm U L = r) => right_yes (sc := sc) (uc := uc) (lc := lc) ((hS.below hW).more' hW.size) ((hU.below hW).more' hW.size) (rows_more (hL.below hW) hW.size) hB h
  have HHL := Lib.hid fun (W : World) (hW : Below w.heap.size w W) => hl.on hW
  have HRL := Lib.hid fun (W : World) (hW : Below w.heap.size w W) => rows_more (hL.below hW) hW.size
  have HZ := Lib.hid hz
  have HLN := Lib.hid hl.len
  clear hS hU hL hl hT hz hB
  go_enter Tryd.func4, Tryd.ntmps4
  go_upto_region 1 with fail
  obtain ⟨W0, hW0⟩ : ∃ W0, ((w.alloc (.cells #[.slice SA sn sc] 24)).alloc (.cells #[.string nm, .slice UA un uc, .slice LA ln lc] 28)) = W0 := ⟨_, rfl⟩
  have HB0 : Hid (Below w.heap.size w W0) := by rw [← hW0]; exact (((Below.refl _ _).alloc (by simp <;> omega) _).alloc (by simp <;> omega) _)
  have hz0 : W0.heap.size = w.heap.size + 2 := by rw [← hW0]; simp
  have HC0 : Hid (∀ X, Below W0.heap.size W0 X → X.rangeAt (w.heap.size) 0 [.slice SA sn sc] ∧ X.rangeAt (w.heap.size + 1) 0 [.string nm, .slice UA un uc, .slice LA ln lc]) := fun X hX => by
    refine ⟨?_, ?_⟩
    · refine range_below hX (by omega) fun j v hv => ?_
      rw [← hW0, Nat.zero_add]; rw [World.cell?_alloc_lt _ _ _ (by simp <;> omega)]; rw [World.cell?_alloc_at _ _ _ _ (by simp), ← hv, ← List.getElem?_toArray]; try rfl
    · refine range_below hX (by omega) fun j v hv => ?_
      rw [← hW0, Nat.zero_add]; rw [World.cell?_alloc_at _ _ _ _ (by simp), ← hv, ← List.getElem?_toArray]; try rfl
  (try rw [hW0])
  clear hW0
  obtain ⟨g0, g1⟩ := HC0.out W0 (Below.refl _ _)
  have q0 : W0.cell? ⟨w.heap.size, 0, none⟩ = some (.slice SA sn sc) := g0 0 _ rfl
  have k0 : W0.cell? ⟨w.heap.size + 1, 0, none⟩ = some (.string nm) := g1 0 _ rfl
  have k1 : W0.cell? ⟨w.heap.size + 1, 1, none⟩ = some (.slice UA un uc) := g1 1 _ rfl
  have k2 : W0.cell? ⟨w.heap.size + 1, 2, none⟩ = some (.slice LA ln lc) := g1 2 _ rfl
  clear g0 g1
  cases hr : right39 S nm U L with
  | false =>
    have HR1 := Lib.hid (HRT.out W0 HB0.out false hr)
    clear hr
    go_wp2_with fail
    refine HR1.out.mono ?_
    rintro e w1 ⟨rfl, hb1⟩
    have HB1 : Hid (Below w.heap.size w w1) := HB0.out.trans (hb1.mono HB0.out.size)
    clear hb1 q0 k0 k1 k2
    go_wp2_with fail
    refine (HAW.out _ HB1.out).mono ?_
    rintro e w5 ⟨rfl, hb5⟩
    have HB5 : Hid (Below w.heap.size w w5) := HB1.out.trans (hb5.mono HB1.out.size)
    clear hb5
    go_wp2
    go_ret
    exact ⟨rfl, HB5.out⟩
  | true =>
    have HR1 := Lib.hid (HRT.out W0 HB0.out true hr)
    clear hr
    go_wp2_with fail
    refine HR1.out.mono ?_
    rintro e w1 ⟨rfl, hb1⟩
    have HB01 : Hid (Below W0.heap.size W0 w1) := hb1
    have HB1 : Hid (Below w.heap.size w w1) := HB0.out.trans (hb1.mono HB0.out.size)
    have hz1 := hb1.size
    clear hb1 q0 k0 k1 k2
    by_cases hf : FewL (l.map Hv.toHt)
    · have HF := Lib.hid (few_yes (c := c) (HHL.out _ HB1.out) hn hf)
      have hn1 : n ≤ 1000 := by have h1 := hf.1; rw [List.length_map, HLN.out] at h1; omega
      have hzz : ∀ x ∈ l, HvZ x.toHt := fun x hx => (hf.2 _ (List.mem_map_of_mem hx)).sz
      have HZZ := Lib.hid hzz
      have HS1 := Lib.hid fun (W : World) (hW : Below w.heap.size w W) => sort39L_any nm UA LA un uc ln lc L A n c l W (HRL.out W hW) HZ.out (HHL.out W hW) hn1 hzz
      have HS2 := Lib.hid fun (W : World) (hW : Below w.heap.size w W) => refSort39_any nm UA LA un uc ln lc L A n c l W (HRL.out W hW) HZ.out (HHL.out W hW) hn1 hzz
      have HCI : Hid (IsCmp fun x y : Hv => cmpH L x.toHt y.toHt) := (cmpH_is L).comap Hv.toHt
      clear hf hzz
      go_wp2_with fail
      refine HF.out.mono ?_
      rintro e w3 ⟨rfl, rfl⟩
      clear HF HR1 HRT
      have HB3 := HB1
      have HB03 := HB01
      clear HB1 HB01
      go_wp2_with fail
      refine wp_region_told [Told.is (.agg #[.string nm, .slice UA un uc, .slice LA ln lc]), Told.is (.slice A n c), Told.such (fun v W => ∃ ys, OwnR encH 5 33 W w3.heap.size v ys ∧ StableOf (fun x y : Hv => cmpH L x.toHt y.toHt) l ys ∧ ∀ x ∈ ys, HvR W W.heap.size x) (fun v W W' ⟨ys, h1, h2, h3⟩ hb => ⟨ys, h1.on hb, h2, fun x hx => (h3 x hx).on hb⟩), Told.is (.agg #[.string nm, .slice UA un uc, .slice LA ln lc]), Told.is (.slice A n c), Told.such (fun v W => ∃ ys, OwnR encH 5 33 W w3.heap.size v ys ∧ StableOf (fun x y : Hv => cmpH L x.toHt y.toHt) l ys ∧ ∀ x ∈ ys, HvR W W.heap.size x) (fun v W W' ⟨ys, h1, h2, h3⟩ hb => ⟨ys, h1.on hb, h2, fun x hx => (h3 x hx).on hb⟩), Told.is (.bool true), Told.is (.bool true), Told.is (.bool true), Told.is (.bool true), Told.is (.bool true)] (by kernel_rfl) (by kernel_rfl) ?_ ?_
      · refine And.intro (fun w1 vals hB hd K hK => ?_) ?_
        · clear hd
          simp only [putAll, Act.put, List.setIfInBounds_toArray, List.set_cons_zero, List.set_cons_succ] at hK ⊢
          obtain ⟨ve, hve⟩ : ∃ f : Nat → Value, f = vals := ⟨_, rfl⟩
          rw [← hve] at hK  ⊢
          clear hve
          refine gwp_none rfl ?_
          refine wp_load_mid 28 (.tmp 4) rfl (w.heap.size + 1) 0 rfl [.string nm, .slice UA un uc, .slice LA ln lc] _ (HC0.out w1 (HB03.out.trans (hB.mono HB03.out.size))).2 Tryd.underlying28 rfl (by kernel_rfl) ?_
          simp only [Act.put, List.setIfInBounds_toArray, List.set_cons_zero, List.set_cons_succ]
          exact hK _ _ rfl (Below.refl _ _)
        refine And.intro (fun w1 vals hB hd K hK => ?_) ?_
        · clear hd
          simp only [putAll, Act.put, List.setIfInBounds_toArray, List.set_cons_zero, List.set_cons_succ] at hK ⊢
          obtain ⟨ve, hve⟩ : ∃ f : Nat → Value, f = vals := ⟨_, rfl⟩
          rw [← hve] at hK  ⊢
          clear hve
          refine gwp_none rfl ?_
          go_simp
          exact hK _ _ rfl (Below.refl _ _)
        refine And.intro (fun w1 vals hB hd K hK => ?_) ?_
        · have e0 : vals 0 = .agg #[.string nm, .slice UA un uc, .slice LA ln lc] := told_at (hd 0 rfl) rfl
          have e1 : vals 1 = .slice A n c := told_at (hd 1 rfl) rfl
          clear hd
          simp only [putAll, Act.put, List.setIfInBounds_toArray, List.set_cons_zero, List.set_cons_succ] at hK ⊢
          simp only [e0, e1] at hK ⊢
          obtain ⟨ve, hve⟩ : ∃ f : Nat → Value, f = vals := ⟨_, rfl⟩
          rw [← hve] at hK  ⊢
          clear e0 e1 hve
          refine gwp_none rfl ?_
          go_simp
          refine (HS1.out w1 (HB3.out.trans (hB.mono HB3.out.size))).mono ?_
          rintro e w4 ⟨v4, rfl, ys, h1, h2, h3, hb4⟩
          exact hK _ _ ⟨ys, own_base h1 hB.size, h2, h3⟩ hb4
        refine And.intro (fun w1 vals hB hd K hK => ?_) ?_
        · clear hd
          simp only [putAll, Act.put, List.setIfInBounds_toArray, List.set_cons_zero, List.set_cons_succ] at hK ⊢
          obtain ⟨ve, hve⟩ : ∃ f : Nat → Value, f = vals := ⟨_, rfl⟩
          rw [← hve] at hK  ⊢
          clear hve
          refine gwp_none rfl ?_
          refine wp_load_mid 28 (.tmp 4) rfl (w.heap.size + 1) 0 rfl [.string nm, .slice UA un uc, .slice LA ln lc] _ (HC0.out w1 (HB03.out.trans (hB.mono HB03.out.size))).2 Tryd.underlying28 rfl (by kernel_rfl) ?_
          simp only [Act.put, List.setIfInBounds_toArray, List.set_cons_zero, List.set_cons_succ]
          exact hK _ _ rfl (Below.refl _ _)
        refine And.intro (fun w1 vals hB hd K hK => ?_) ?_
        · clear hd
          simp only [putAll, Act.put, List.setIfInBounds_toArray, List.set_cons_zero, List.set_cons_succ] at hK ⊢
          obtain ⟨ve, hve⟩ : ∃ f : Nat → Value, f = vals := ⟨_, rfl⟩
          rw [← hve] at hK  ⊢
          clear hve
          refine gwp_none rfl ?_
          go_simp
          exact hK _ _ rfl (Below.refl _ _)
        refine And.intro (fun w1 vals hB hd K hK => ?_) ?_
        · have e3 : vals 3 = .agg #[.string nm, .slice UA un uc, .slice LA ln lc] := told_at (hd 3 rfl) rfl
          have e4 : vals 4 = .slice A n c := told_at (hd 4 rfl) rfl
          clear hd
          simp only [putAll, Act.put, List.setIfInBounds_toArray, List.set_cons_zero, List.set_cons_succ] at hK ⊢
          simp only [e3, e4] at hK ⊢
          obtain ⟨ve, hve⟩ : ∃ f : Nat → Value, f = vals := ⟨_, rfl⟩
          rw [← hve] at hK  ⊢
          clear e3 e4 hve
          refine gwp_none rfl ?_
          go_simp
          refine (HS2.out w1 (HB3.out.trans (hB.mono HB3.out.size))).mono ?_
          rintro e w4 ⟨v4, rfl, ys, h1, h2, h3, hb4⟩
          exact hK _ _ ⟨ys, own_base h1 hB.size, h2, h3⟩ hb4
        refine And.intro (fun w1 vals hB hd K hK => ?_) ?_
        · have p2 := told_at (t := Told.such (fun v W => ∃ ys, OwnR encH 5 33 W w3.heap.size v ys ∧ StableOf (fun x y : Hv => cmpH L x.toHt y.toHt) l ys ∧ ∀ x ∈ ys, HvR W W.heap.size x) (fun v W W' ⟨ys, h1, h2, h3⟩ hb => ⟨ys, h1.on hb, h2, fun x hx => (h3 x hx).on hb⟩)) (hd 2 rfl) rfl
          simp only [Told.holds] at p2
          have p5 := told_at (t := Told.such (fun v W => ∃ ys, OwnR encH 5 33 W w3.heap.size v ys ∧ StableOf (fun x y : Hv => cmpH L x.toHt y.toHt) l ys ∧ ∀ x ∈ ys, HvR W W.heap.size x) (fun v W W' ⟨ys, h1, h2, h3⟩ hb => ⟨ys, h1.on hb, h2, fun x hx => (h3 x hx).on hb⟩)) (hd 5 rfl) rfl
          simp only [Told.holds] at p5
          clear hd
          obtain ⟨x2, hx2⟩ : ∃ x, vals 2 = x := ⟨_, rfl⟩
          rw [hx2] at p2
          obtain ⟨x5, hx5⟩ : ∃ x, vals 5 = x := ⟨_, rfl⟩
          rw [hx5] at p5
          simp only [putAll, Act.put, List.setIfInBounds_toArray, List.set_cons_zero, List.set_cons_succ] at hK ⊢
          simp only [hx2, hx5] at hK ⊢
          obtain ⟨ve, hve⟩ : ∃ f : Nat → Value, f = vals := ⟨_, rfl⟩
          rw [← hve] at hK  ⊢
          clear hx2 hx5 hve
          refine gwp_none rfl ?_
          obtain ⟨ys, o1, s1, r1⟩ := p2
          obtain ⟨zs, o2, s2, r2⟩ := p5
          obtain rfl : ys = zs := s1.unique HCI.out s2
          obtain ⟨A1, c1, rfl, _, _, f1⟩ := OwnR.form o1
          obtain ⟨A2, c2, rfl, _, _, f2⟩ := OwnR.form o2
          have hle : ys.length = n := s1.perm.length_eq.trans HLN.out
          rw [hle] at f1 f2 hK ⊢
          go_simp
          refine (sameH_any A1 A2 n c1 c2 ys ys w1 rfl ⟨f1, r1⟩ ⟨f2, r2⟩ hn).mono ?_
          rintro e w4 ⟨rfl, hb4⟩
          exact hK _ _ rfl hb4
        refine And.intro (fun w1 vals hB hd K hK => ?_) ?_
        · have e6 : vals 6 = .bool true := told_at (hd 6 rfl) rfl
          clear hd
          simp only [putAll, Act.put, List.setIfInBounds_toArray, List.set_cons_zero, List.set_cons_succ] at hK ⊢
          simp only [e6] at hK ⊢
          obtain ⟨ve, hve⟩ : ∃ f : Nat → Value, f = vals := ⟨_, rfl⟩
          rw [← hve] at hK  ⊢
          clear e6 hve
          refine gwp_none rfl ?_
          go_simp
          exact hK _ _ rfl (Below.refl _ _)
        refine And.intro (fun w1 vals hB hd K hK => ?_) ?_
        · have g7 : vals 7 = .bool true := told_at (hd 7 rfl) rfl
          clear hd
          simp only [putAll, Act.put, List.setIfInBounds_toArray, List.set_cons_zero, List.set_cons_succ] at hK ⊢
          obtain ⟨ve, hve⟩ : ∃ f : Nat → Value, f = vals := ⟨_, rfl⟩
          rw [← hve] at hK g7 ⊢
          clear hve
          refine gwp_some rfl g7 ?_
          clear g7
          go_simp
          refine (HAW.out w1 (HB3.out.trans (hB.mono HB3.out.size))).mono ?_
          rintro e w4 ⟨rfl, hb4⟩
          exact hK _ _ rfl hb4
        refine And.intro (fun w1 vals hB hd K hK => ?_) ?_
        · have e7 : vals 7 = .bool true := told_at (hd 7 rfl) rfl
          have e8 : vals 8 = .bool true := told_at (hd 8 rfl) rfl
          clear hd
          simp only [putAll, Act.put, List.setIfInBounds_toArray, List.set_cons_zero, List.set_cons_succ] at hK ⊢
          simp only [e7, e8] at hK ⊢
          obtain ⟨ve, hve⟩ : ∃ f : Nat → Value, f = vals := ⟨_, rfl⟩
          rw [← hve] at hK  ⊢
          clear e7 e8 hve
          refine gwp_none rfl ?_
          go_simp
          exact hK _ _ rfl (Below.refl _ _)
        refine And.intro (fun w1 vals hB hd K hK => ?_) ?_
        · have e9 : vals 9 = .bool true := told_at (hd 9 rfl) rfl
          clear hd
          simp only [putAll, Act.put, List.setIfInBounds_toArray, List.set_cons_zero, List.set_cons_succ] at hK ⊢
          simp only [e9] at hK ⊢
          obtain ⟨ve, hve⟩ : ∃ f : Nat → Value, f = vals := ⟨_, rfl⟩
          rw [← hve] at hK  ⊢
          clear e9 hve
          refine gwp_none rfl ?_
          go_simp
          exact hK _ _ rfl (Below.refl _ _)
        exact trivial
      · intro w1 vals hB hd
        have e10 : vals 10 = .bool true := told_at (hd 10 (by decide)) rfl
        clear hd
        simp only [putAll, Act.put, List.setIfInBounds_toArray, List.set_cons_zero, List.set_cons_succ]
        simp only [e10]
        obtain ⟨ve, hve⟩ : ∃ f : Nat → Value, f = vals := ⟨_, rfl⟩
        rw [← hve]
        clear e10 hve
        go_wp2
        go_ret
        exact ⟨rfl, HB3.out.trans (hB.mono HB3.out.size)⟩
    · have HF := Lib.hid (few_no (c := c) (HHL.out _ HB1.out) hn hf)
      clear hf
      go_wp2_with fail
      refine HF.out.mono ?_
      rintro e w3 ⟨rfl, rfl⟩
      go_wp2_with fail
      refine (HAW.out _ HB1.out).mono ?_
      rintro e w5 ⟨rfl, hb5⟩
      have HB5 : Hid (Below w.heap.size w w5) := HB1.out.trans (hb5.mono HB1.out.size)
      clear hb5
      go_wp2
      go_ret
      exact ⟨rfl, HB5.out⟩
end Go.Proofs.YtdpllfgnppeneaaDoor
