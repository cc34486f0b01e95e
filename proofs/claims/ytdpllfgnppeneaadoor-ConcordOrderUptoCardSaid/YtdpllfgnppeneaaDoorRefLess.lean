/-
  Less, by the reference.
-/
import Derived.Test.YtdpllfgnppeneaaDoorG15
import Derived.Test.YtdpllfgnppeneaaDoorG09
namespace Go.Proofs.YtdpllfgnppeneaaDoor
open Go.RowKit Ru Lay
attribute [local go_sem ↓] Go.wp_at_zero Go.wp_at_succ
set_option linter.unusedVariables false
set_option linter.unusedSimpArgs false

theorem cmpH_1 {L : List (List ByteArray)} {a b : Ht} {c : Int} (h : cmpL L a.key b.key = c) (h0 : ¬ c = 0) : cmpH L a b = c := by
  unfold cmpH
  rw [orI_cons, h, if_neg h0]
theorem cmpH_2 {L : List (List ByteArray)} {a b : Ht} {c : Int} (h1 : cmpL L a.key b.key = 0) (h : cmpT (cmpL L) a.right b.right = c) (h0 : ¬ c = 0) : cmpH L a b = c := by
  unfold cmpH
  rw [orI_cons, h1, if_pos rfl, orI_cons, h, if_neg h0]
theorem cmpH_3 {L : List (List ByteArray)} {a b : Ht} {c : Int} (h1 : cmpL L a.key b.key = 0) (h2 : cmpT (cmpL L) a.right b.right = 0) (h : cmpT (cmpL L) a.left.reverse b.left.reverse = c) (h0 : ¬ c = 0) : cmpH L a b = c := by
  unfold cmpH
  rw [orI_cons, h1, if_pos rfl, orI_cons, h2, if_pos rfl, orI_cons, h, if_neg h0]
theorem cmpH_4 {L : List (List ByteArray)} {a b : Ht} (h1 : cmpL L a.key b.key = 0) (h2 : cmpT (cmpL L) a.right b.right = 0) (h3 : cmpT (cmpL L) a.left.reverse b.left.reverse = 0) : cmpH L a b < 0 ↔ (a.rid < b.rid ∨ a.rid = b.rid ∧ a.nid < b.nid) := by
  unfold cmpH
  rw [orI_cons, h1, if_pos rfl, orI_cons, h2, if_pos rfl, orI_cons, h3, if_pos rfl, orI_cons, orI_cons]
  have : orI [] = 0 := rfl
  rw [this]
  unfold Lib.compareInt
  split <;> split <;> (try split) <;> (try split) <;> omega
set_option maxHeartbeats 8000000 in
set_option maxRecDepth 100000 in
theorem refLess_any (nm : ByteArray) (UA LA : Option Addr) (un uc ln lc : Nat) (L : List (List ByteArray)) (a b : Hv) (w : World) (hL : RowsR w w.heap.size LA ln L) (hz : SizedL L) (ha : HvR w w.heap.size a) (hb : HvR w w.heap.size b) (za : HvZ a.toHt) (zb : HvZ b.toHt) :
    Calls Tryd.prog 13 #[.agg #[.string nm, .slice UA un uc, .slice LA ln lc], .agg #[.int .i64 a.rid, .int .i64 a.nid, .slice a.la a.ln a.lc, .string a.key, .slice a.ra a.rn a.rc], .agg #[.int .i64 b.rid, .int .i64 b.nid, .slice b.la b.ln b.lc, .string b.key, .slice b.ra b.rn b.rc]] w fun e w' => e = .returned (.bool (decide (cmpH L a.toHt b.toHt < 0))) ∧ Below w.heap.size w w' := by
  have HLA0 := Lib.hid fun (W : World) (hW : Below w.heap.size w W) => (ha.on hW)
  have HLB0 := Lib.hid fun (W : World) (hW : Below w.heap.size w W) => (hb.on hW)
  have HRL0 := Lib.hid fun (W : World) (hW : Below w.heap.size w W) => rows_more (hL.below hW) hW.size
  have HC1 := Lib.hid fun (W : World) (hW : Below w.heap.size w W) => refCompare_any nm UA LA un uc ln lc L a.key b.key W W.heap.size (rows_more (hL.below hW) hW.size) (Nat.le_refl _) hz (by have := za.key; omega) (by have := zb.key; omega)
  have HC2 := Lib.hid fun (W : World) (hW : Below w.heap.size w W) => refCmpT_any nm UA LA un uc ln lc L a.ra b.ra a.rn a.rc b.rn b.rc a.right b.right W (rows_more (hL.below hW) hW.size) hz (ha.on hW).right (hb.on hW).right za.right zb.right
  have HZA := Lib.hid za
  have HZB := Lib.hid zb
  clear ha hb hL
  go_enter Tryd.func13, Tryd.ntmps13
  go_wp2_with fail
  obtain ⟨p, hp⟩ : ∃ p, w.heap.size = p := ⟨_, rfl⟩
  obtain ⟨W0, hW0⟩ : ∃ W0, (((w.alloc (.cells #[.string nm, .slice UA un uc, .slice LA ln lc] 28)).alloc (.cells #[.int .i64 a.rid, .int .i64 a.nid, .slice a.la a.ln a.lc, .string a.key, .slice a.ra a.rn a.rc] 33)).alloc (.cells #[.int .i64 b.rid, .int .i64 b.nid, .slice b.la b.ln b.lc, .string b.key, .slice b.ra b.rn b.rc] 33)) = W0 := ⟨_, rfl⟩
  have hz0 : W0.heap.size = p + 3 := by rw [← hW0, ← hp]; simp
  have HB : Hid (Below w.heap.size w W0) := by rw [← hW0]; exact (((Below.refl _ w).alloc (Nat.le_refl _) _).alloc (by simp) _).alloc (by simp; omega) _
  have HCo0 : Hid (∀ W, Below W0.heap.size W0 W → W.rangeAt p 0 [.string nm, .slice UA un uc, .slice LA ln lc]) := fun W hW => by
    refine range_below hW (by omega) ?_
    intro j v hv
    rw [← hW0, World.cell?_alloc_lt _ _ _ (by simp; omega), World.cell?_alloc_lt _ _ _ (by rw [← hp]; simp), ← hp, Nat.zero_add, World.cell?_alloc_new w _ _ j, ← hv, ← List.getElem?_toArray]
  have HCa0 : Hid (∀ W, Below W0.heap.size W0 W → W.rangeAt (p + 1) 0 [.int .i64 a.rid, .int .i64 a.nid, .slice a.la a.ln a.lc, .string a.key, .slice a.ra a.rn a.rc]) := fun W hW => by
    refine range_below hW (by omega) ?_
    intro j v hv
    have h := World.cell?_alloc_new (w.alloc (.cells #[.string nm, .slice UA un uc, .slice LA ln lc] 28)) #[.int .i64 a.rid, .int .i64 a.nid, .slice a.la a.ln a.lc, .string a.key, .slice a.ra a.rn a.rc] 33 j
    rw [show (w.alloc (.cells #[.string nm, .slice UA un uc, .slice LA ln lc] 28)).heap.size = p + 1 by rw [← hp]; simp] at h
    rw [← hW0, World.cell?_alloc_lt _ _ _ (by rw [← hp]; simp), Nat.zero_add, h, ← hv, ← List.getElem?_toArray]
  have HCb0 : Hid (∀ W, Below W0.heap.size W0 W → W.rangeAt (p + 2) 0 [.int .i64 b.rid, .int .i64 b.nid, .slice b.la b.ln b.lc, .string b.key, .slice b.ra b.rn b.rc]) := fun W hW => by
    refine range_below hW (by omega) ?_
    intro j v hv
    have h := World.cell?_alloc_new ((w.alloc (.cells #[.string nm, .slice UA un uc, .slice LA ln lc] 28)).alloc (.cells #[.int .i64 a.rid, .int .i64 a.nid, .slice a.la a.ln a.lc, .string a.key, .slice a.ra a.rn a.rc] 33)) #[.int .i64 b.rid, .int .i64 b.nid, .slice b.la b.ln b.lc, .string b.key, .slice b.ra b.rn b.rc] 33 j
    rw [show ((w.alloc (.cells #[.string nm, .slice UA un uc, .slice LA ln lc] 28)).alloc (.cells #[.int .i64 a.rid, .int .i64 a.nid, .slice a.la a.ln a.lc, .string a.key, .slice a.ra a.rn a.rc] 33)).heap.size = p + 2 by rw [← hp]; simp] at h
    rw [← hW0, Nat.zero_add, h, ← hv, ← List.getElem?_toArray]
  rw [hW0]
  simp only [hp]
  (try rw [show p + 1 + 1 = p + 2 by omega])
  clear hW0
  obtain ⟨c1, hc1⟩ : ∃ c1, Hid (cmpL L a.key b.key = c1) := ⟨_, rfl⟩
  obtain ⟨c2, hc2⟩ : ∃ c2, Hid (cmpT (cmpL L) a.right b.right = c2) := ⟨_, rfl⟩
  have HC1' : Hid (∀ W, Below w.heap.size w W → Calls Tryd.prog 36 #[.agg #[.string nm, .slice UA un uc, .slice LA ln lc], .string a.key, .string b.key] W fun e w' => e = .returned (.int .i64 c1) ∧ Below W.heap.size W w') := by
    show ∀ W, _ → _
    rw [← hc1.out]
    exact HC1.out
  rw [hc2.out] at HC2
  clear HC1
  refine (HC1'.out W0 HB.out).mono ?_
  rintro e w1 ⟨rfl, hb1⟩
  have HB1 : Hid (Below W0.heap.size W0 w1) := hb1
  clear hb1 HC1'
  by_cases h1 : c1 = 0
  · subst h1
    have hro := (HCo0.out w1 HB1.out)
    have hra := (HCa0.out w1 HB1.out)
    have hrb := (HCb0.out w1 HB1.out)
    have o0 : w1.cell? ⟨p, 0, none⟩ = some (.string nm) := hro 0 _ rfl
    have o1 : w1.cell? ⟨p, 1, none⟩ = some (.slice UA un uc) := hro 1 _ rfl
    have o2 : w1.cell? ⟨p, 2, none⟩ = some (.slice LA ln lc) := hro 2 _ rfl
    have x4 : w1.cell? ⟨p + 1, 4, none⟩ = some (.slice a.ra a.rn a.rc) := hra 4 _ rfl
    have y4 : w1.cell? ⟨p + 2, 4, none⟩ = some (.slice b.ra b.rn b.rc) := hrb 4 _ rfl
    clear hro hra hrb
    have HBW1 : Hid (Below w.heap.size w w1) := HB.out.trans (HB1.out.mono HB.out.size)
    have HC2' := Lib.hid (HC2.out w1 HBW1.out)
    clear HC2
    go_wp2_with fail
    refine HC2'.out.mono ?_
    rintro e w2 ⟨rfl, hb2⟩
    have HB2 : Hid (Below W0.heap.size W0 w2) := HB1.out.trans (hb2.mono HB1.out.size)
    clear hb2 HC2' o0 o1 o2 x4 y4 HBW1
    by_cases h2 : c2 = 0
    · subst h2
      have HW2 : Hid (∀ W, Below w2.heap.size w2 W → Below W0.heap.size W0 W) := fun W hW => HB2.out.trans (hW.mono HB2.out.size)
      have HCo : Hid (∀ W, Below w2.heap.size w2 W → W.rangeAt p 0 [.string nm, .slice UA un uc, .slice LA ln lc]) := fun W hW => HCo0.out W (HW2.out W hW)
      have HCa : Hid (∀ W, Below w2.heap.size w2 W → W.rangeAt (p + 1) 0 [.int .i64 a.rid, .int .i64 a.nid, .slice a.la a.ln a.lc, .string a.key, .slice a.ra a.rn a.rc]) := fun W hW => HCa0.out W (HW2.out W hW)
      have HCb : Hid (∀ W, Below w2.heap.size w2 W → W.rangeAt (p + 2) 0 [.int .i64 b.rid, .int .i64 b.nid, .slice b.la b.ln b.lc, .string b.key, .slice b.ra b.rn b.rc]) := fun W hW => HCb0.out W (HW2.out W hW)
      have HLa : Hid (∀ W, Below w2.heap.size w2 W → SR W W.heap.size a.la a.ln a.left) := fun W hW => (HLA0.out W (HB.out.trans ((HW2.out W hW).mono HB.out.size))).left
      have HLb : Hid (∀ W, Below w2.heap.size w2 W → SR W W.heap.size b.la b.ln b.left) := fun W hW => (HLB0.out W (HB.out.trans ((HW2.out W hW).mono HB.out.size))).left
      have HRL : Hid (∀ W, Below w2.heap.size w2 W → RowsR W W.heap.size LA ln L) := fun W hW => HRL0.out W (HB.out.trans ((HW2.out W hW).mono HB.out.size))
      obtain ⟨la, hla⟩ : ∃ la, a.left.reverse = la := ⟨_, rfl⟩
      obtain ⟨lb, hlb⟩ : ∃ lb, b.left.reverse = lb := ⟨_, rfl⟩
      obtain ⟨ma, hma⟩ : ∃ ma, la.length = ma := ⟨_, rfl⟩
      obtain ⟨mb, hmb⟩ : ∃ mb, lb.length = mb := ⟨_, rfl⟩
      have HZa : Hid (SzS la) := by show SzS la; rw [← hla]; exact szs_rev za.left
      have HZb : Hid (SzS lb) := by show SzS lb; rw [← hlb]; exact szs_rev zb.left
      have HRa := Lib.hid hla
      have HRb := Lib.hid hlb
      have HMa := Lib.hid hma
      have HMb := Lib.hid hmb
      clear HCo0 HLA0 HLB0 HRL0 hla hlb hma hmb
      go_wp2_with fail
      refine wp_region_told [Told.is (.agg #[.string nm, .slice UA un uc, .slice LA ln lc]), Told.is (.pointer (some ⟨(p + 1), 2, none⟩)), Told.is (.slice a.la a.ln a.lc), Told.such (fun v w => ∃ A c, v = .slice A (ma) c ∧ SR w w.heap.size A (ma) la) (fun v w w' ⟨A, c, h1, h2⟩ hb => ⟨A, c, h1, SR.on h2 hb⟩), Told.is (.pointer (some ⟨(p + 2), 2, none⟩)), Told.is (.slice b.la b.ln b.lc), Told.such (fun v w => ∃ A c, v = .slice A (mb) c ∧ SR w w.heap.size A (mb) lb) (fun v w w' ⟨A, c, h1, h2⟩ hb => ⟨A, c, h1, SR.on h2 hb⟩), Told.is (.int .i64 (cmpT (cmpL L) la lb)), Told.is (.int .i64 (cmpT (cmpL L) la lb))] (by kernel_rfl) (by kernel_rfl) ?_ ?_
      · refine And.intro (fun w1 vals hB hd K hK => ?_) ?_
        · clear hd
          simp only [putAll, Act.put, List.setIfInBounds_toArray, List.set_cons_zero, List.set_cons_succ] at hK ⊢
          obtain ⟨ve, hve⟩ : ∃ f : Nat → Value, f = vals := ⟨_, rfl⟩
          rw [← hve] at hK  ⊢
          clear hve
          refine gwp_none rfl ?_
          refine wp_load_mid 28 (.tmp 3) rfl p 0 rfl [.string nm, .slice UA un uc, .slice LA ln lc] _ (HCo.out w1 hB) Tryd.underlying28 rfl (by kernel_rfl) ?_
          simp only [Act.put, List.setIfInBounds_toArray, List.set_cons_zero, List.set_cons_succ]
          exact hK _ _ rfl (Below.refl _ _)
        refine And.intro (fun w1 vals hB hd K hK => ?_) ?_
        · clear hd
          simp only [putAll, Act.put, List.setIfInBounds_toArray, List.set_cons_zero, List.set_cons_succ] at hK ⊢
          obtain ⟨ve, hve⟩ : ∃ f : Nat → Value, f = vals := ⟨_, rfl⟩
          rw [← hve] at hK  ⊢
          clear hve
          refine gwp_none rfl ?_
          go_simp
          exact hK _ _ rfl (Below.refl _ _)
        refine And.intro (fun w1 vals hB hd K hK => ?_) ?_
        · have e1 : vals 1 = .pointer (some ⟨(p + 1), 2, none⟩) := told_at (hd 1 rfl) rfl
          clear hd
          simp only [putAll, Act.put, List.setIfInBounds_toArray, List.set_cons_zero, List.set_cons_succ] at hK ⊢
          simp only [e1] at hK ⊢
          obtain ⟨ve, hve⟩ : ∃ f : Nat → Value, f = vals := ⟨_, rfl⟩
          rw [← hve] at hK  ⊢
          clear e1 hve
          refine gwp_none rfl ?_
          have hc := (HCa.out w1 hB) 2 _ rfl
          go_simp
          exact hK _ _ rfl (Below.refl _ _)
        refine And.intro (fun w1 vals hB hd K hK => ?_) ?_
        · have e2 : vals 2 = .slice a.la a.ln a.lc := told_at (hd 2 rfl) rfl
          clear hd
          simp only [putAll, Act.put, List.setIfInBounds_toArray, List.set_cons_zero, List.set_cons_succ] at hK ⊢
          simp only [e2] at hK ⊢
          obtain ⟨ve, hve⟩ : ∃ f : Nat → Value, f = vals := ⟨_, rfl⟩
          rw [← hve] at hK  ⊢
          clear e2 hve
          refine gwp_none rfl ?_
          go_simp
          refine (reversed_any a.la a.ln a.lc a.left w1 (HLa.out w1 hB) za.left).mono ?_
          rintro e w2 ⟨v2, rfl, h2, hb2⟩
          rw [HRa.out] at h2
          obtain ⟨A, c, hv2, _, _, hs⟩ := OwnS.form h2
          rw [HMa.out] at hv2 hs
          exact hK _ _ ⟨A, c, hv2, hs⟩ hb2
        refine And.intro (fun w1 vals hB hd K hK => ?_) ?_
        · clear hd
          simp only [putAll, Act.put, List.setIfInBounds_toArray, List.set_cons_zero, List.set_cons_succ] at hK ⊢
          obtain ⟨ve, hve⟩ : ∃ f : Nat → Value, f = vals := ⟨_, rfl⟩
          rw [← hve] at hK  ⊢
          clear hve
          refine gwp_none rfl ?_
          go_simp
          exact hK _ _ rfl (Below.refl _ _)
        refine And.intro (fun w1 vals hB hd K hK => ?_) ?_
        · have e4 : vals 4 = .pointer (some ⟨(p + 2), 2, none⟩) := told_at (hd 4 rfl) rfl
          clear hd
          simp only [putAll, Act.put, List.setIfInBounds_toArray, List.set_cons_zero, List.set_cons_succ] at hK ⊢
          simp only [e4] at hK ⊢
          obtain ⟨ve, hve⟩ : ∃ f : Nat → Value, f = vals := ⟨_, rfl⟩
          rw [← hve] at hK  ⊢
          clear e4 hve
          refine gwp_none rfl ?_
          have hc := (HCb.out w1 hB) 2 _ rfl
          go_simp
          exact hK _ _ rfl (Below.refl _ _)
        refine And.intro (fun w1 vals hB hd K hK => ?_) ?_
        · have e5 : vals 5 = .slice b.la b.ln b.lc := told_at (hd 5 rfl) rfl
          clear hd
          simp only [putAll, Act.put, List.setIfInBounds_toArray, List.set_cons_zero, List.set_cons_succ] at hK ⊢
          simp only [e5] at hK ⊢
          obtain ⟨ve, hve⟩ : ∃ f : Nat → Value, f = vals := ⟨_, rfl⟩
          rw [← hve] at hK  ⊢
          clear e5 hve
          refine gwp_none rfl ?_
          go_simp
          refine (reversed_any b.la b.ln b.lc b.left w1 (HLb.out w1 hB) zb.left).mono ?_
          rintro e w2 ⟨v2, rfl, h2, hb2⟩
          rw [HRb.out] at h2
          obtain ⟨A, c, hv2, _, _, hs⟩ := OwnS.form h2
          rw [HMb.out] at hv2 hs
          exact hK _ _ ⟨A, c, hv2, hs⟩ hb2
        refine And.intro (fun w1 vals hB hd K hK => ?_) ?_
        · have e0 : vals 0 = .agg #[.string nm, .slice UA un uc, .slice LA ln lc] := told_at (hd 0 rfl) rfl
          have p3 := told_at (t := Told.such (fun v w => ∃ A c, v = .slice A (ma) c ∧ SR w w.heap.size A (ma) la) (fun v w w' ⟨A, c, h1, h2⟩ hb => ⟨A, c, h1, SR.on h2 hb⟩)) (hd 3 rfl) rfl
          simp only [Told.holds] at p3
          have p6 := told_at (t := Told.such (fun v w => ∃ A c, v = .slice A (mb) c ∧ SR w w.heap.size A (mb) lb) (fun v w w' ⟨A, c, h1, h2⟩ hb => ⟨A, c, h1, SR.on h2 hb⟩)) (hd 6 rfl) rfl
          simp only [Told.holds] at p6
          clear hd
          obtain ⟨x3, hx3⟩ : ∃ x, vals 3 = x := ⟨_, rfl⟩
          rw [hx3] at p3
          obtain ⟨x6, hx6⟩ : ∃ x, vals 6 = x := ⟨_, rfl⟩
          rw [hx6] at p6
          simp only [putAll, Act.put, List.setIfInBounds_toArray, List.set_cons_zero, List.set_cons_succ] at hK ⊢
          simp only [e0, hx3, hx6] at hK ⊢
          obtain ⟨ve, hve⟩ : ∃ f : Nat → Value, f = vals := ⟨_, rfl⟩
          rw [← hve] at hK  ⊢
          clear e0 hx3 hx6 hve
          refine gwp_none rfl ?_
          obtain ⟨A3, c3, rfl, h3⟩ := p3
          obtain ⟨A6, c6, rfl, h6⟩ := p6
          go_simp
          refine (refCmpT_any nm UA LA un uc ln lc L A3 A6 ma c3 mb c6 la lb w1 (HRL.out w1 hB) hz h3 h6 HZa.out HZb.out).mono ?_
          rintro e w2 ⟨rfl, hb2⟩
          exact hK _ _ rfl hb2
        refine And.intro (fun w1 vals hB hd K hK => ?_) ?_
        · have e7 : vals 7 = .int .i64 (cmpT (cmpL L) la lb) := told_at (hd 7 rfl) rfl
          clear hd
          simp only [putAll, Act.put, List.setIfInBounds_toArray, List.set_cons_zero, List.set_cons_succ] at hK ⊢
          simp only [e7] at hK ⊢
          obtain ⟨ve, hve⟩ : ∃ f : Nat → Value, f = vals := ⟨_, rfl⟩
          rw [← hve] at hK  ⊢
          clear e7 hve
          refine gwp_none rfl ?_
          go_simp
          exact hK _ _ rfl (Below.refl _ _)
        exact trivial
      · intro w3 vals hB hd
        have e8 : vals 8 = .int .i64 (cmpT (cmpL L) la lb) := told_at (hd 8 (by decide)) rfl
        clear hd
        simp only [putAll, Act.put, List.setIfInBounds_toArray, List.set_cons_zero, List.set_cons_succ]
        simp only [e8]
        obtain ⟨ve, hve⟩ : ∃ f : Nat → Value, f = vals := ⟨_, rfl⟩
        rw [← hve]
        clear e8 hve
        obtain ⟨c3, hc3⟩ : ∃ c3, Hid (cmpT (cmpL L) la lb = c3) := ⟨_, rfl⟩
        have HB3 : Hid (Below W0.heap.size W0 w3) := HW2.out w3 hB
        rw [hc3.out]
        have hc3' : Hid (cmpT (cmpL L) a.left.reverse b.left.reverse = c3) := by show _ = _; rw [HRa.out, HRb.out]; exact hc3.out
        clear HCo HCa HCb HLa HLb HRL HW2 hB
        by_cases h3 : c3 = 0
        · subst h3
          have hiff := cmpH_4 (a := a.toHt) (b := b.toHt) hc1.out hc2.out hc3'.out
          have hra := (HCa0.out w3 HB3.out)
          have hrb := (HCb0.out w3 HB3.out)
          have x0 : w3.cell? ⟨p + 1, 0, none⟩ = some (.int .i64 a.rid) := hra 0 _ rfl
          have x1 : w3.cell? ⟨p + 1, 1, none⟩ = some (.int .i64 a.nid) := hra 1 _ rfl
          have y0 : w3.cell? ⟨p + 2, 0, none⟩ = some (.int .i64 b.rid) := hrb 0 _ rfl
          have y1 : w3.cell? ⟨p + 2, 1, none⟩ = some (.int .i64 b.nid) := hrb 1 _ rfl
          have HI := Lib.hid hiff
          clear hra hrb hiff
          by_cases g1 : a.rid < b.rid
          · have HRES : Hid (decide (cmpH L a.toHt b.toHt < 0) = true) := decide_eq_true (HI.out.2 (.inl g1))
            have hd1 : decide (a.rid < b.rid) = true := decide_eq_true g1
            go_wp2
            go_ret
            exact ⟨ret_bool HRES.out.symm, (by first | exact HB.out.trans (HB3.out.mono HB.out.size) | (rw [← hp]; exact HB.out.trans (HB3.out.mono HB.out.size)))⟩
          · have hd1 : decide (a.rid < b.rid) = false := decide_eq_false g1
            by_cases g2 : a.rid = b.rid
            · have hd2 : (a.rid == b.rid) = true := beq_iff_eq.2 g2
              have HG2 := Lib.hid g2
              clear g2
              by_cases g3 : a.nid < b.nid
              · have hd3 : decide (a.nid < b.nid) = true := decide_eq_true g3
                have HRES : Hid (decide (cmpH L a.toHt b.toHt < 0) = true) := decide_eq_true (HI.out.2 (.inr ⟨HG2.out, g3⟩))
                go_wp2
                go_ret
                exact ⟨ret_bool HRES.out.symm, (by first | exact HB.out.trans (HB3.out.mono HB.out.size) | (rw [← hp]; exact HB.out.trans (HB3.out.mono HB.out.size)))⟩
              · have hd3 : decide (a.nid < b.nid) = false := decide_eq_false g3
                have HRES : Hid (decide (cmpH L a.toHt b.toHt < 0) = false) := decide_eq_false fun h => by
                  rcases HI.out.1 h with h | h
                  · exact g1 h
                  · exact g3 h.2
                go_wp2
                go_ret
                exact ⟨ret_bool HRES.out.symm, (by first | exact HB.out.trans (HB3.out.mono HB.out.size) | (rw [← hp]; exact HB.out.trans (HB3.out.mono HB.out.size)))⟩
            · have hd2 : (a.rid == b.rid) = false := beq_eq_false_iff_ne.2 g2
              have HRES : Hid (decide (cmpH L a.toHt b.toHt < 0) = false) := decide_eq_false fun h => by
                rcases HI.out.1 h with h | h
                · exact g1 h
                · exact g2 h.1
              go_wp2
              go_ret
              exact ⟨ret_bool HRES.out.symm, (by first | exact HB.out.trans (HB3.out.mono HB.out.size) | (rw [← hp]; exact HB.out.trans (HB3.out.mono HB.out.size)))⟩
        · have hne : (c3 != 0) = true := by rw [bne_iff_ne]; exact h3
          have HRES : Hid (cmpH L a.toHt b.toHt = c3) := cmpH_3 hc1.out hc2.out hc3'.out h3
          go_wp2
          go_ret
          exact ⟨ret_bool (by rw [HRES.out]), (by first | exact HB.out.trans (HB3.out.mono HB.out.size) | (rw [← hp]; exact HB.out.trans (HB3.out.mono HB.out.size)))⟩
    · have hne : (c2 != 0) = true := by rw [bne_iff_ne]; exact h2
      have HRES : Hid (cmpH L a.toHt b.toHt = c2) := cmpH_2 hc1.out hc2.out h2
      go_wp2
      go_ret
      exact ⟨ret_bool (by rw [HRES.out]), (by first | exact HB.out.trans (HB2.out.mono HB.out.size) | (rw [← hp]; exact HB.out.trans (HB2.out.mono HB.out.size)))⟩
  · have hne : (c1 != 0) = true := by rw [bne_iff_ne]; exact h1
    have HRES : Hid (cmpH L a.toHt b.toHt = c1) := cmpH_1 hc1.out h1
    go_wp2
    go_ret
    exact ⟨ret_bool (by rw [HRES.out]), (by first | exact HB.out.trans (HB1.out.mono HB.out.size) | (rw [← hp]; exact HB.out.trans (HB1.out.mono HB.out.size)))⟩
end Go.Proofs.YtdpllfgnppeneaaDoor
