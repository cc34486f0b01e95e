/-
  concord.compare and concord.Less: how the program orders lines.
-/
import Derived.Test.YtdpllfgnppeneaaGreatDoorG13
import Derived.Test.YtdpllfgnppeneaaGreatDoorG06
import Derived.Test.YtdpllfgnppeneaaGreatDoorG08
import Derived.Test.YtdpllfgnppeneaaGreatDoorG09
import Derived.Lib.SliceRun
import Derived.Shelf.Abstract
import Derived.Lib.Small
import Derived.Lib.OwnBridge
namespace Go.Proofs.YtdpllfgnppeneaaGreatDoor
open Go.RowKit Ru Lay
attribute [local go_sem ↓] Go.wp_at_zero Go.wp_at_succ
set_option linter.unusedVariables false
set_option linter.unusedSimpArgs false

/-- How lines are ordered. -/
def cmpH (L : List (List ByteArray)) (a b : Ht) : Int := orI [cmpL L a.key b.key, cmpT (cmpL L) a.right b.right, cmpT (cmpL L) a.left.reverse b.left.reverse, Lib.compareInt a.rid b.rid, Lib.compareInt a.nid b.nid]
theorem szs_rev {l : List ByteArray} (h : SzS l) : SzS l.reverse := ⟨by rw [List.length_reverse]; exact h.1, fun s hs => h.2 s (List.mem_reverse.1 hs)⟩
set_option maxRecDepth 100000 in
set_option maxHeartbeats 400000 in
theorem clone_strings (A : Option Addr) (n c : Nat) (l : List ByteArray) (w : World) (h : SR w w.heap.size A n l) (hn : n ≤ 1099511627776) :
    Calls Tryz.prog 51 #[.slice A n c] w fun e w' => ∃ v, e = .returned v ∧ w'.ownsRow w.heap.size 9 1 v n (l.map .string) ∧ Below w.heap.size w w' := by
  obtain ⟨i0, hi, hz0, hz1, hz2⟩ := info_parts info_string
  have he := fun (w : World) (a : Option Addr) (n c : Nat) => Lib.run_eql_slice_nil (P := Tryz.prog) w 33 9 a n c 0 0 Tryz.underlying33
  cases A with
  | none =>
    have h0 : n = 0 := by
      rcases Nat.eq_zero_or_pos n with e | e
      · exact e
      · obtain ⟨ad, hc, _⟩ := h.2 e; cases hc
    subst h0
    have hl : l = [] := List.eq_nil_of_length_eq_zero h.len
    subst hl
    go_enter Tryz.func51, Tryz.ntmps51
    go_wp2
    go_ret
    exact ⟨_, rfl, World.ownsRow_nil _ _ _ _, Below.refl _ _⟩
  | some ad =>
    have hcells : ∀ j u, (l.map Value.string)[j]? = some u → (w.alloc (.cells #[] 9)).cell? (ad.add j) = some u := fun j u hu => by
      have hj := (List.getElem?_eq_some_iff.1 hu).1
      have hl := h.1
      rcases Nat.eq_zero_or_pos n with e | e
      · rw [e] at hl; omega
      · obtain ⟨ad', hc, hb, hh⟩ := h.2 e
        injection hc with hc
        subst hc
        rw [World.cell?_alloc_lt _ _ _ (by rw [block_of_add]; exact hb)]
        exact hh j u hu
    have HCELL := Lib.hid hcells; clear hcells
    have HL := Lib.hid h.1; clear h
    have hown := Lib.hid (World.ownsRow_made (base := w.heap.size) (e := 9) (size := 1) w #[] 0 (Nat.le_refl _) (by unfold maxLen; omega) (by simp))
    go_enter Tryz.func51, Tryz.ntmps51
    go_wp2_with (at_builtin; refine wpList_append_own _ rfl (.tmp 5) (.tmp 6) _ rfl w.heap.size 9 i0 _ 1 16 Tryz.underlying33 hi hz0 hz1 hz2 rfl (by decide) _ 0 [] rfl hown.out ad n c (l.map .string) rfl HL.out HCELL.out (by simp [Value.oneCell']) (by unfold maxLen; omega) (by omega) (by simp) ?_; intro v' w1 hown1 hg _)
    simp only [Nat.zero_add, List.nil_append] at hown1
    go_wp2
    go_ret
    exact ⟨v', rfl, hown1, ((Below.refl _ w).alloc (Nat.le_refl _) _).grown hg (by simp) (fun k e => by cases e; exact Nat.le_refl _)⟩
set_option maxRecDepth 100000 in
theorem clone39_any (A : Option Addr) (n c : Nat) (l : List ByteArray) (w : World) (h : SR w w.heap.size A n l) (hn : n ≤ 1099511627776) :
    Calls Tryz.prog 51 #[.slice A n c] w fun e w' => ∃ v, e = .returned v ∧ OwnS w' w.heap.size v l ∧ Below w.heap.size w w' := by
  have hl := h.len
  subst hl
  refine (clone_strings A l.length c l w h hn).mono ?_
  rintro e w' ⟨v, h1, h2, h3⟩
  exact ⟨v, h1, h2, h3⟩
theorem own_reset {w : World} {base e c g n : Nat} {xs ys : List Value} (h : w.ownsRow base e 1 (.slice (some ⟨g, 0, none⟩) n c) n xs) (hl : ys.length = n) (q : Nat) : ((w.drewN q).setCells g 0 ys).ownsRow base e 1 (.slice (some ⟨g, 0, none⟩) n c) n ys := by
  refine ⟨by rw [hl, Nat.mul_one], ?_⟩
  have hth : (w.drewN q).there g 0 ys.length := fun j hj => by
    refine ⟨?_, by rw [Nat.zero_add]; exact World.ownsRow.frozenAt h j⟩
    rw [Nat.zero_add]
    show (w.cell? ⟨g, j, none⟩).isSome = true
    have hx := h.1
    rw [World.ownsRow.cellAt h j (by omega), List.getElem?_eq_getElem (by omega)]
    rfl
  have hra := World.rangeAt_setCells_same (w.drewN q) g 0 ys hth
  rcases h.2 with ⟨h1, _⟩ | ⟨g', cap, cur, hv, hg, hh, hnc, hm, hsz, ht⟩
  · cases h1
  · cases hv
    obtain ⟨c', h2, h3, h4⟩ := heap_setCells_self g ys 0 (w.drewN q) cur e (0, 0) hh
    refine .inr ⟨g, c, c', rfl, hg, h2, hnc, hm, by rw [h3]; exact hsz, ?_⟩
    apply List.ext_getElem?
    intro k
    by_cases hk : k < ys.length
    · have := hra k _ (List.getElem?_eq_getElem hk)
      rw [Nat.zero_add] at this
      simp only [World.cell?, h2] at this
      rw [List.getElem?_take, if_pos (by omega), List.getElem?_eq_getElem hk]
      simpa using this
    · rw [List.getElem?_eq_none (by rw [List.length_take]; omega), List.getElem?_eq_none (by omega)]
theorem grownBy_drewSet (w : World) (q g : Nat) (ys : List Value) : w.grownBy ((w.drewN q).setCells g 0 ys) (some g) :=
  ⟨World.os_setCells _ _ _ _, tape_setCells _ _ _ _, World.output_setCells _ _ _ _, by rw [size_setCells]; exact Nat.le_refl _, fun k hk hne => World.heap_setCells_other _ _ _ _ hk (fun e => hne (by rw [e]))⟩
/-- slices.Reverse on a row of the call's own. -/
theorem rev_any (base : Nat) (v : Value) (l : List ByteArray) (w : World) (h : OwnS w base v l) (hn : l.length ≤ 1000) :
    Calls Tryz.prog 52 #[v] w fun e w' => e = .returned (.tuple #[]) ∧ OwnS w' base v l.reverse ∧ w.grownBy w' v.ownBlock := by
  rcases Nat.eq_zero_or_pos l.length with e0 | e0
  · have hl := List.eq_nil_of_length_eq_zero e0
    subst hl
    obtain ⟨A, c, rfl, _, _, _⟩ := h.form
    refine (Tryz.slices_Reverse_string_empty A c w).mono ?_
    rintro e w' ⟨rfl, rfl⟩
    exact ⟨rfl, h, World.grownBy.refl _ _⟩
  · obtain ⟨g, cap, rfl⟩ : ∃ g cap, v = .slice (some ⟨g, 0, none⟩) l.length cap := by
      rcases h.2 with ⟨_, h2⟩ | ⟨g, cap, cur, hv, _⟩
      · omega
      · exact ⟨g, cap, hv⟩
    refine (Tryz.slices_Reverse_string_cells g 0 l.length cap (fun i => l.getD i ByteArray.empty) w (by omega) (fun i hi => by
      rw [Nat.zero_add, World.ownsRow.cellAt h i (by omega), List.getElem?_map, List.getD, List.getElem?_eq_getElem hi]
      rfl) (fun j _ => by rw [Nat.zero_add]; exact World.ownsRow.frozenAt h j)).mono ?_
    rintro e w' ⟨rfl, q, rfl⟩
    have hs : ((Lib.strsOf (fun i => l.getD i ByteArray.empty) l.length).reverse.map encStr) = l.reverse.map Value.string := by
      have e1 : Lib.strsOf (fun i => l.getD i ByteArray.empty) l.length = l.map (·.data.toList) := by
        unfold Lib.strsOf
        apply List.ext_getElem
        · simp
        · intro k h1 h2
          simp at h1
          simp [List.getD, h1]
      rw [e1, List.map_reverse, Lib.map_encStr, List.map_reverse]
    rw [hs]
    refine ⟨rfl, ?_, grownBy_drewSet w q g _⟩
    have := own_reset h (ys := l.reverse.map Value.string) (by simp) q
    show World.ownsRow _ _ _ _ _ _ _
    rw [List.length_reverse]
    exact this
set_option maxHeartbeats 8000000 in
set_option maxRecDepth 100000 in
theorem cmpH_any (nm : ByteArray) (UA LA : Option Addr) (un uc ln lc : Nat) (L : List (List ByteArray)) (a b : Hv) (w : World) (hL : RowsR w w.heap.size LA ln L) (hz : SizedL L) (ha : HvR w w.heap.size a) (hb : HvR w w.heap.size b) (za : HvZ a.toHt) (zb : HvZ b.toHt) :
    Calls Tryz.prog 31 #[.agg #[.string nm, .slice UA un uc, .slice LA ln lc], .agg #[.int .i64 a.rid, .int .i64 a.nid, .slice a.la a.ln a.lc, .string a.key, .slice a.ra a.rn a.rc], .agg #[.int .i64 b.rid, .int .i64 b.nid, .slice b.la b.ln b.lc, .string b.key, .slice b.ra b.rn b.rc]] w fun e w' => e = .returned (.int .i64 (cmpH L a.toHt b.toHt)) ∧ Below w.heap.size w w' := by
  have hlna : a.ln ≤ 1000 := by rw [← ha.left.len]; exact za.left.1
  have hlnb : b.ln ≤ 1000 := by rw [← hb.left.len]; exact zb.left.1
  have hka : a.key.size ≤ 1000 := za.key
  have hkb : b.key.size ≤ 1000 := zb.key
  have HLA0 := Lib.hid fun (W : World) (hW : Below w.heap.size w W) => (ha.on hW)
  have HLB0 := Lib.hid fun (W : World) (hW : Below w.heap.size w W) => (hb.on hW)
  have HRL0 := Lib.hid fun (W : World) (hW : Below w.heap.size w W) => hL.below hW
  clear ha hb hL
  go_enter Tryz.func31, Tryz.ntmps31
  go_wp2_with fail
  obtain ⟨p, hp⟩ : ∃ p, w.heap.size = p := ⟨_, rfl⟩
  obtain ⟨W0, hW0⟩ : ∃ W0, (((w.alloc (.cells #[.string nm, .slice UA un uc, .slice LA ln lc] 50)).alloc (.cells #[.int .i64 a.rid, .int .i64 a.nid, .slice a.la a.ln a.lc, .string a.key, .slice a.ra a.rn a.rc] 35)).alloc (.cells #[.int .i64 b.rid, .int .i64 b.nid, .slice b.la b.ln b.lc, .string b.key, .slice b.ra b.rn b.rc] 35)) = W0 := ⟨_, rfl⟩
  have hz0 : W0.heap.size = p + 3 := by rw [← hW0, ← hp]; simp
  have HB : Hid (Below w.heap.size w W0) := by rw [← hW0]; exact (((Below.refl _ w).alloc (Nat.le_refl _) _).alloc (by simp) _).alloc (by simp; omega) _
  have HCo0 : Hid (∀ W, Below W0.heap.size W0 W → W.rangeAt p 0 [.string nm, .slice UA un uc, .slice LA ln lc]) := fun W hW => by
    refine range_below hW (by omega) ?_
    intro j v hv
    rw [← hW0, World.cell?_alloc_lt _ _ _ (by simp; omega), World.cell?_alloc_lt _ _ _ (by rw [← hp]; simp), ← hp, Nat.zero_add, World.cell?_alloc_new w _ _ j, ← hv, ← List.getElem?_toArray]
  have HCa0 : Hid (∀ W, Below W0.heap.size W0 W → W.rangeAt (p + 1) 0 [.int .i64 a.rid, .int .i64 a.nid, .slice a.la a.ln a.lc, .string a.key, .slice a.ra a.rn a.rc]) := fun W hW => by
    refine range_below hW (by omega) ?_
    intro j v hv
    have h := World.cell?_alloc_new (w.alloc (.cells #[.string nm, .slice UA un uc, .slice LA ln lc] 50)) #[.int .i64 a.rid, .int .i64 a.nid, .slice a.la a.ln a.lc, .string a.key, .slice a.ra a.rn a.rc] 35 j
    rw [show (w.alloc (.cells #[.string nm, .slice UA un uc, .slice LA ln lc] 50)).heap.size = p + 1 by rw [← hp]; simp] at h
    rw [← hW0, World.cell?_alloc_lt _ _ _ (by rw [← hp]; simp), Nat.zero_add, h, ← hv, ← List.getElem?_toArray]
  have HCb0 : Hid (∀ W, Below W0.heap.size W0 W → W.rangeAt (p + 2) 0 [.int .i64 b.rid, .int .i64 b.nid, .slice b.la b.ln b.lc, .string b.key, .slice b.ra b.rn b.rc]) := fun W hW => by
    refine range_below hW (by omega) ?_
    intro j v hv
    have h := World.cell?_alloc_new ((w.alloc (.cells #[.string nm, .slice UA un uc, .slice LA ln lc] 50)).alloc (.cells #[.int .i64 a.rid, .int .i64 a.nid, .slice a.la a.ln a.lc, .string a.key, .slice a.ra a.rn a.rc] 35)) #[.int .i64 b.rid, .int .i64 b.nid, .slice b.la b.ln b.lc, .string b.key, .slice b.ra b.rn b.rc] 35 j
    rw [show ((w.alloc (.cells #[.string nm, .slice UA un uc, .slice LA ln lc] 50)).alloc (.cells #[.int .i64 a.rid, .int .i64 a.nid, .slice a.la a.ln a.lc, .string a.key, .slice a.ra a.rn a.rc] 35)).heap.size = p + 2 by rw [← hp]; simp] at h
    rw [← hW0, Nat.zero_add, h, ← hv, ← List.getElem?_toArray]
  rw [hW0]
  simp only [hp]
  rw [show p + 1 + 1 = p + 2 by omega]
  clear hW0
  obtain ⟨B0, hB0⟩ : ∃ B0, W0.heap.size = B0 := ⟨_, rfl⟩
  have HCa := Lib.hid HCa0.out
  have HCb := Lib.hid HCb0.out
  have HLa : Hid (∀ W, Below W0.heap.size W0 W → SR W W.heap.size a.la a.ln a.left) := fun W hW => (HLA0.out W (HB.out.trans (hW.mono HB.out.size))).left
  have HLb : Hid (∀ W, Below W0.heap.size W0 W → SR W W.heap.size b.la b.ln b.left) := fun W hW => (HLB0.out W (HB.out.trans (hW.mono HB.out.size))).left
  refine wp_region_toldF [ToldF.is (.pointer (some ⟨(p + 1), 2, none⟩)), ToldF.is (.slice a.la a.ln a.lc), ToldF.own 0 (fun v w => OwnS w B0 v a.left) (fun v w w' h hb => OwnS.on h hb) (fun v w h b hbk => (World.ownsRow.lt h b hbk).2), ToldF.is (.pointer (some ⟨(p + 2), 2, none⟩)), ToldF.is (.slice b.la b.ln b.lc), ToldF.own 1 (fun v w => OwnS w B0 v b.left) (fun v w w' h hb => OwnS.on h hb) (fun v w h b hbk => (World.ownsRow.lt h b hbk).2), ToldF.own 0 (fun v w => OwnS w B0 v a.left) (fun v w w' h hb => OwnS.on h hb) (fun v w h b hbk => (World.ownsRow.lt h b hbk).2), ToldF.own 1 (fun v w => OwnS w B0 v b.left) (fun v w w' h hb => OwnS.on h hb) (fun v w h b hbk => (World.ownsRow.lt h b hbk).2)] (by kernel_rfl) (by kernel_rfl) ?_ ?_
  · refine And.intro (fun w1 vals hB hd K hK => ?_) ?_
    · clear hd
      simp only [putAll, Act.put, List.setIfInBounds_toArray, List.set_cons_zero, List.set_cons_succ] at hK ⊢
      obtain ⟨ve, hve⟩ : ∃ f : Nat → Value, f = vals := ⟨_, rfl⟩
      rw [← hve] at hK  ⊢
      clear hve
      refine gwp_none rfl ?_
      go_simp
      exact hK _ _ rfl ⟨Below.refl _ _, fun x h => (by cases h)⟩
    refine And.intro (fun w1 vals hB hd K hK => ?_) ?_
    · have e0 : vals 0 = .pointer (some ⟨(p + 1), 2, none⟩) := toldF_at (hd 0 rfl) rfl
      clear hd
      simp only [putAll, Act.put, List.setIfInBounds_toArray, List.set_cons_zero, List.set_cons_succ] at hK ⊢
      simp only [e0] at hK ⊢
      obtain ⟨ve, hve⟩ : ∃ f : Nat → Value, f = vals := ⟨_, rfl⟩
      rw [← hve] at hK  ⊢
      clear e0 hve
      refine gwp_none rfl ?_
      have hc := (HCa.out w1 hB) 2 _ rfl
      go_simp
      exact hK _ _ rfl ⟨Below.refl _ _, fun x h => (by cases h)⟩
    refine And.intro (fun w1 vals hB hd K hK => ?_) ?_
    · have e1 : vals 1 = .slice a.la a.ln a.lc := toldF_at (hd 1 rfl) rfl
      clear hd
      simp only [putAll, Act.put, List.setIfInBounds_toArray, List.set_cons_zero, List.set_cons_succ] at hK ⊢
      simp only [e1] at hK ⊢
      obtain ⟨ve, hve⟩ : ∃ f : Nat → Value, f = vals := ⟨_, rfl⟩
      rw [← hve] at hK  ⊢
      clear e1 hve
      refine gwp_none rfl ?_
      go_simp
      refine (clone39_any a.la a.ln a.lc a.left w1 (HLa.out w1 hB) (by have := hlna; omega)).mono ?_
      rintro e w2 ⟨v2, rfl, h2, hb2⟩
      exact hK _ _ (own_base h2 (by have := hB.size; omega)) ⟨hb2, fun x h => .inl fun b hbk => (World.ownsRow.lt h2 b hbk).1⟩
    refine And.intro (fun w1 vals hB hd K hK => ?_) ?_
    · clear hd
      simp only [putAll, Act.put, List.setIfInBounds_toArray, List.set_cons_zero, List.set_cons_succ] at hK ⊢
      obtain ⟨ve, hve⟩ : ∃ f : Nat → Value, f = vals := ⟨_, rfl⟩
      rw [← hve] at hK  ⊢
      clear hve
      refine gwp_none rfl ?_
      go_simp
      exact hK _ _ rfl ⟨Below.refl _ _, fun x h => (by cases h)⟩
    refine And.intro (fun w1 vals hB hd K hK => ?_) ?_
    · have e3 : vals 3 = .pointer (some ⟨(p + 2), 2, none⟩) := toldF_at (hd 3 rfl) rfl
      clear hd
      simp only [putAll, Act.put, List.setIfInBounds_toArray, List.set_cons_zero, List.set_cons_succ] at hK ⊢
      simp only [e3] at hK ⊢
      obtain ⟨ve, hve⟩ : ∃ f : Nat → Value, f = vals := ⟨_, rfl⟩
      rw [← hve] at hK  ⊢
      clear e3 hve
      refine gwp_none rfl ?_
      have hc := (HCb.out w1 hB) 2 _ rfl
      go_simp
      exact hK _ _ rfl ⟨Below.refl _ _, fun x h => (by cases h)⟩
    refine And.intro (fun w1 vals hB hd K hK => ?_) ?_
    · have e4 : vals 4 = .slice b.la b.ln b.lc := toldF_at (hd 4 rfl) rfl
      clear hd
      simp only [putAll, Act.put, List.setIfInBounds_toArray, List.set_cons_zero, List.set_cons_succ] at hK ⊢
      simp only [e4] at hK ⊢
      obtain ⟨ve, hve⟩ : ∃ f : Nat → Value, f = vals := ⟨_, rfl⟩
      rw [← hve] at hK  ⊢
      clear e4 hve
      refine gwp_none rfl ?_
      go_simp
      refine (clone39_any b.la b.ln b.lc b.left w1 (HLb.out w1 hB) (by have := hlnb; omega)).mono ?_
      rintro e w2 ⟨v2, rfl, h2, hb2⟩
      exact hK _ _ (own_base h2 (by have := hB.size; omega)) ⟨hb2, fun x h => .inl fun b hbk => (World.ownsRow.lt h2 b hbk).1⟩
    refine And.intro (fun w1 vals hB hd K hK => ?_) ?_
    · have p2 := toldF_at (t := ToldF.own 0 (fun v w => OwnS w B0 v a.left) (fun v w w' h hb => OwnS.on h hb) (fun v w h b hbk => (World.ownsRow.lt h b hbk).2)) (hd 2 rfl) rfl
      simp only [ToldF.holds] at p2
      clear hd
      obtain ⟨x2, hx2⟩ : ∃ x, vals 2 = x := ⟨_, rfl⟩
      rw [hx2] at p2
      simp only [putAll, Act.put, List.setIfInBounds_toArray, List.set_cons_zero, List.set_cons_succ] at hK ⊢
      simp only [hx2] at hK ⊢
      refine gwp_none rfl ?_
      go_simp
      exact hK _ _ p2 ⟨Below.refl _ _, fun x h => .inr ⟨2, rfl, h, hx2.symm⟩⟩
    refine And.intro (fun w1 vals hB hd K hK => ?_) ?_
    · have p5 := toldF_at (t := ToldF.own 1 (fun v w => OwnS w B0 v b.left) (fun v w w' h hb => OwnS.on h hb) (fun v w h b hbk => (World.ownsRow.lt h b hbk).2)) (hd 5 rfl) rfl
      simp only [ToldF.holds] at p5
      clear hd
      obtain ⟨x5, hx5⟩ : ∃ x, vals 5 = x := ⟨_, rfl⟩
      rw [hx5] at p5
      simp only [putAll, Act.put, List.setIfInBounds_toArray, List.set_cons_zero, List.set_cons_succ] at hK ⊢
      simp only [hx5] at hK ⊢
      refine gwp_none rfl ?_
      go_simp
      exact hK _ _ p5 ⟨Below.refl _ _, fun x h => .inr ⟨5, rfl, h, hx5.symm⟩⟩
    exact trivial
  · intro w1 vals hB hd hap
    have p6 := toldF_at (t := ToldF.own 0 (fun v w => OwnS w B0 v a.left) (fun v w w' h hb => OwnS.on h hb) (fun v w h b hbk => (World.ownsRow.lt h b hbk).2)) (hd 6 (by decide)) rfl
    simp only [ToldF.holds] at p6
    have p7 := toldF_at (t := ToldF.own 1 (fun v w => OwnS w B0 v b.left) (fun v w w' h hb => OwnS.on h hb) (fun v w h b hbk => (World.ownsRow.lt h b hbk).2)) (hd 7 (by decide)) rfl
    simp only [ToldF.holds] at p7
    obtain ⟨x6, hx6⟩ : ∃ x, vals 6 = x := ⟨_, rfl⟩
    rw [hx6] at p6
    obtain ⟨x7, hx7⟩ : ∃ x, vals 7 = x := ⟨_, rfl⟩
    rw [hx7] at p7
    have hap67 := hap 6 7 (by decide) (by decide) 0 1 rfl rfl (by decide)
    rw [hx6, hx7] at hap67
    clear hap
    clear hd
    simp only [putAll, Act.put, List.setIfInBounds_toArray, List.set_cons_zero, List.set_cons_succ]
    simp only [hx6, hx7]
    obtain ⟨ve, hve⟩ : ∃ f : Nat → Value, f = vals := ⟨_, rfl⟩
    rw [← hve]
    clear hx6 hx7 hve
    clear HCa HCb HLa HLb
    have h6o := Lib.hid (rev_any B0 x6 a.left w1 p6 (by have := za.left.1; omega))
    have HP7 := Lib.hid p7
    have HB1 : Hid (Below W0.heap.size W0 w1) := hB
    clear p6 p7 hB
    go_wp2_with fail
    refine h6o.out.mono ?_
    rintro e w2 ⟨rfl, h6, hg6⟩
    have h7 : OwnS w2 B0 x7 b.left := World.ownsRow.kept HP7.out hg6 (by
      cases hq : x7.ownBlock with
      | none => exact .inl rfl
      | some k => exact .inr fun e => hap67 k e.symm hq)
    have HB2 : Hid (Below W0.heap.size W0 w2) := HB1.out.grown hg6 HB1.out.size (fun k hk => by rw [hB0]; exact (World.ownsRow.lt h6 k hk).1)
    have H6 := Lib.hid h6
    have h7o := Lib.hid (rev_any B0 x7 b.left w2 h7 (by have := zb.left.1; omega))
    clear h6 hg6 h6o h7 HP7 HB1
    go_wp2_with fail
    refine h7o.out.mono ?_
    rintro e w3 ⟨rfl, h7, hg7⟩
    have h6 : OwnS w3 B0 x6 a.left.reverse := World.ownsRow.kept H6.out hg7 (by
      cases hq : x6.ownBlock with
      | none => exact .inl rfl
      | some k => exact .inr fun e => hap67 k hq e.symm)
    have HB3 : Hid (Below W0.heap.size W0 w3) := HB2.out.grown hg7 HB2.out.size (fun k hk => by rw [hB0]; exact (World.ownsRow.lt h7 k hk).1)
    clear hg7 h7o H6 HB2 hap67
    obtain ⟨A6, c6, hx6, _, _, hs6⟩ := OwnS.form h6
    obtain ⟨A7, c7, hx7, _, _, hs7⟩ := OwnS.form h7
    obtain ⟨m6, hm6⟩ : ∃ m6, a.left.reverse.length = m6 := ⟨_, rfl⟩
    obtain ⟨m7, hm7⟩ : ∃ m7, b.left.reverse.length = m7 := ⟨_, rfl⟩
    rw [hm6] at hx6 hs6
    rw [hm7] at hx7 hs7
    subst hx6 hx7
    clear hm6 hm7
    have HX6 : Hid (∀ W, Below w3.heap.size w3 W → SR W W.heap.size A6 m6 a.left.reverse) := fun W hW => hs6.on hW
    have HX7 : Hid (∀ W, Below w3.heap.size w3 W → SR W W.heap.size A7 m7 b.left.reverse) := fun W hW => hs7.on hW
    have HW3 : Hid (∀ W, Below w3.heap.size w3 W → Below W0.heap.size W0 W) := fun W hW => HB3.out.trans (hW.mono HB3.out.size)
    have HCa : Hid (∀ W, Below w3.heap.size w3 W → W.rangeAt (p + 1) 0 [.int .i64 a.rid, .int .i64 a.nid, .slice a.la a.ln a.lc, .string a.key, .slice a.ra a.rn a.rc]) := fun W hW => HCa0.out W (HW3.out W hW)
    have HCb : Hid (∀ W, Below w3.heap.size w3 W → W.rangeAt (p + 2) 0 [.int .i64 b.rid, .int .i64 b.nid, .slice b.la b.ln b.lc, .string b.key, .slice b.ra b.rn b.rc]) := fun W hW => HCb0.out W (HW3.out W hW)
    have HRa : Hid (∀ W, Below w3.heap.size w3 W → SR W W.heap.size a.ra a.rn a.right) := fun W hW => (HLA0.out W (HB.out.trans ((HW3.out W hW).mono HB.out.size))).right
    have HRb : Hid (∀ W, Below w3.heap.size w3 W → SR W W.heap.size b.ra b.rn b.right) := fun W hW => (HLB0.out W (HB.out.trans ((HW3.out W hW).mono HB.out.size))).right
    have HBX : Hid (∀ W, Below w3.heap.size w3 W → BoxOr W p nm UA un uc LA ln lc) := fun W hW => by
      have h := HCo0.out W (HW3.out W hW)
      exact ⟨by have := (HW3.out W hW).size; omega, h 0 _ rfl, h 1 _ rfl, h 2 _ rfl⟩
    have HRL : Hid (∀ W, Below w3.heap.size w3 W → RowsR W w.heap.size LA ln L) := fun W hW => HRL0.out W (HB.out.trans ((HW3.out W hW).mono HB.out.size))
    have HSZ : Hid (∀ W, Below w3.heap.size w3 W → w.heap.size ≤ W.heap.size) := fun W hW => (HB.out.trans ((HW3.out W hW).mono HB.out.size)).size
    clear h6 h7 hs6 hs7 HCa0 HCb0 HCo0 HLA0 HLB0 HRL0
    go_wp2_with fail
    refine wp_region_told [Told.is (.func (.func 49) #[] #[.pointer (some ⟨p, 0, none⟩)]), Told.is (.pointer (some ⟨(p + 1), 3, none⟩)), Told.is (.string a.key), Told.is (.pointer (some ⟨(p + 2), 3, none⟩)), Told.is (.string b.key), Told.is (.int .i64 (cmpL L a.key b.key)), Told.is (.pointer (some ⟨(p + 1), 4, none⟩)), Told.is (.slice a.ra a.rn a.rc), Told.is (.pointer (some ⟨(p + 2), 4, none⟩)), Told.is (.slice b.ra b.rn b.rc), Told.is (.func (.func 49) #[] #[.pointer (some ⟨p, 0, none⟩)]), Told.is (.int .i64 (cmpT (cmpL L) a.right b.right)), Told.is (.slice A6 m6 c6), Told.is (.slice A7 m7 c7), Told.is (.func (.func 49) #[] #[.pointer (some ⟨p, 0, none⟩)]), Told.is (.int .i64 (cmpT (cmpL L) a.left.reverse b.left.reverse)), Told.is (.pointer (some ⟨(p + 1), 0, none⟩)), Told.is (.pointer (some ⟨(p + 1), 0, none⟩)), Told.is (.int .i64 a.rid), Told.is (.pointer (some ⟨(p + 2), 0, none⟩)), Told.is (.pointer (some ⟨(p + 2), 0, none⟩)), Told.is (.int .i64 b.rid), Told.is (.int .i64 (Lib.compareInt a.rid b.rid)), Told.is (.pointer (some ⟨(p + 1), 0, none⟩)), Told.is (.pointer (some ⟨(p + 1), 1, none⟩)), Told.is (.int .i64 a.nid), Told.is (.pointer (some ⟨(p + 2), 0, none⟩)), Told.is (.pointer (some ⟨(p + 2), 1, none⟩)), Told.is (.int .i64 b.nid), Told.is (.int .i64 (Lib.compareInt a.nid b.nid)), Told.such (fun v w => ∃ A c, v = .slice A 5 c ∧ IR w w.heap.size A 5 [cmpL L a.key b.key, cmpT (cmpL L) a.right b.right, cmpT (cmpL L) a.left.reverse b.left.reverse, Lib.compareInt a.rid b.rid, Lib.compareInt a.nid b.nid]) (fun v w w' ⟨A, c, h1, h2⟩ hb => ⟨A, c, h1, IR.on h2 hb⟩), Told.is (.int .i64 (cmpH L a.toHt b.toHt)), Told.is (.int .i64 (cmpH L a.toHt b.toHt))] (by kernel_rfl) (by kernel_rfl) ?_ ?_
    · refine And.intro (fun w1 vals hB hd K hK => ?_) ?_
      · clear hd
        simp only [putAll, Act.put, List.setIfInBounds_toArray, List.set_cons_zero, List.set_cons_succ] at hK ⊢
        obtain ⟨ve, hve⟩ : ∃ f : Nat → Value, f = vals := ⟨_, rfl⟩
        rw [← hve] at hK  ⊢
        clear hve
        refine gwp_none rfl ?_
        go_simp
        exact hK _ _ rfl (Below.refl _ _)
      refine And.intro (fun w1 vals hB hd K hK => ?_) ?_
      · clear hd
        simp only [putAll, Act.put, List.setIfInBounds_toArray, List.set_cons_zero, List.set_cons_succ] at hK ⊢
        obtain ⟨ve, hve⟩ : ∃ f : Nat → Value, f = vals := ⟨_, rfl⟩
        rw [← hve] at hK  ⊢
        clear hve
        refine gwp_none rfl ?_
        go_simp
        exact hK _ _ rfl (Below.refl _ _)
      refine And.intro (fun w1 vals hB hd K hK => ?_) ?_
      · have e1 : vals 1 = .pointer (some ⟨(p + 1), 3, none⟩) := told_at (hd 1 rfl) rfl
        clear hd
        simp only [putAll, Act.put, List.setIfInBounds_toArray, List.set_cons_zero, List.set_cons_succ] at hK ⊢
        simp only [e1] at hK ⊢
        obtain ⟨ve, hve⟩ : ∃ f : Nat → Value, f = vals := ⟨_, rfl⟩
        rw [← hve] at hK  ⊢
        clear e1 hve
        refine gwp_none rfl ?_
        have hc := (HCa.out w1 hB) 3 _ rfl
        go_simp
        exact hK _ _ rfl (Below.refl _ _)
      refine And.intro (fun w1 vals hB hd K hK => ?_) ?_
      · clear hd
        simp only [putAll, Act.put, List.setIfInBounds_toArray, List.set_cons_zero, List.set_cons_succ] at hK ⊢
        obtain ⟨ve, hve⟩ : ∃ f : Nat → Value, f = vals := ⟨_, rfl⟩
        rw [← hve] at hK  ⊢
        clear hve
        refine gwp_none rfl ?_
        go_simp
        exact hK _ _ rfl (Below.refl _ _)
      refine And.intro (fun w1 vals hB hd K hK => ?_) ?_
      · have e3 : vals 3 = .pointer (some ⟨(p + 2), 3, none⟩) := told_at (hd 3 rfl) rfl
        clear hd
        simp only [putAll, Act.put, List.setIfInBounds_toArray, List.set_cons_zero, List.set_cons_succ] at hK ⊢
        simp only [e3] at hK ⊢
        obtain ⟨ve, hve⟩ : ∃ f : Nat → Value, f = vals := ⟨_, rfl⟩
        rw [← hve] at hK  ⊢
        clear e3 hve
        refine gwp_none rfl ?_
        have hc := (HCb.out w1 hB) 3 _ rfl
        go_simp
        exact hK _ _ rfl (Below.refl _ _)
      refine And.intro (fun w1 vals hB hd K hK => ?_) ?_
      · have e0 : vals 0 = .func (.func 49) #[] #[.pointer (some ⟨p, 0, none⟩)] := told_at (hd 0 rfl) rfl
        have e2 : vals 2 = .string a.key := told_at (hd 2 rfl) rfl
        have e4 : vals 4 = .string b.key := told_at (hd 4 rfl) rfl
        clear hd
        simp only [putAll, Act.put, List.setIfInBounds_toArray, List.set_cons_zero, List.set_cons_succ] at hK ⊢
        simp only [e0, e2, e4] at hK ⊢
        obtain ⟨ve, hve⟩ : ∃ f : Nat → Value, f = vals := ⟨_, rfl⟩
        rw [← hve] at hK  ⊢
        clear e0 e2 e4 hve
        refine gwp_none rfl ?_
        have hent := enters_word
        go_simp
        refine (word_any nm UA LA un uc ln lc p L a.key b.key w1 w.heap.size (HBX.out w1 hB) (HRL.out w1 hB) (HSZ.out w1 hB) hz (by have := hka; omega) (by have := hkb; omega)).mono ?_
        rintro e w2 ⟨rfl, hb2⟩
        exact hK _ _ rfl hb2
      refine And.intro (fun w1 vals hB hd K hK => ?_) ?_
      · clear hd
        simp only [putAll, Act.put, List.setIfInBounds_toArray, List.set_cons_zero, List.set_cons_succ] at hK ⊢
        obtain ⟨ve, hve⟩ : ∃ f : Nat → Value, f = vals := ⟨_, rfl⟩
        rw [← hve] at hK  ⊢
        clear hve
        refine gwp_none rfl ?_
        go_simp
        exact hK _ _ rfl (Below.refl _ _)
      refine And.intro (fun w1 vals hB hd K hK => ?_) ?_
      · have e6 : vals 6 = .pointer (some ⟨(p + 1), 4, none⟩) := told_at (hd 6 rfl) rfl
        clear hd
        simp only [putAll, Act.put, List.setIfInBounds_toArray, List.set_cons_zero, List.set_cons_succ] at hK ⊢
        simp only [e6] at hK ⊢
        obtain ⟨ve, hve⟩ : ∃ f : Nat → Value, f = vals := ⟨_, rfl⟩
        rw [← hve] at hK  ⊢
        clear e6 hve
        refine gwp_none rfl ?_
        have hc := (HCa.out w1 hB) 4 _ rfl
        go_simp
        exact hK _ _ rfl (Below.refl _ _)
      refine And.intro (fun w1 vals hB hd K hK => ?_) ?_
      · clear hd
        simp only [putAll, Act.put, List.setIfInBounds_toArray, List.set_cons_zero, List.set_cons_succ] at hK ⊢
        obtain ⟨ve, hve⟩ : ∃ f : Nat → Value, f = vals := ⟨_, rfl⟩
        rw [← hve] at hK  ⊢
        clear hve
        refine gwp_none rfl ?_
        go_simp
        exact hK _ _ rfl (Below.refl _ _)
      refine And.intro (fun w1 vals hB hd K hK => ?_) ?_
      · have e8 : vals 8 = .pointer (some ⟨(p + 2), 4, none⟩) := told_at (hd 8 rfl) rfl
        clear hd
        simp only [putAll, Act.put, List.setIfInBounds_toArray, List.set_cons_zero, List.set_cons_succ] at hK ⊢
        simp only [e8] at hK ⊢
        obtain ⟨ve, hve⟩ : ∃ f : Nat → Value, f = vals := ⟨_, rfl⟩
        rw [← hve] at hK  ⊢
        clear e8 hve
        refine gwp_none rfl ?_
        have hc := (HCb.out w1 hB) 4 _ rfl
        go_simp
        exact hK _ _ rfl (Below.refl _ _)
      refine And.intro (fun w1 vals hB hd K hK => ?_) ?_
      · clear hd
        simp only [putAll, Act.put, List.setIfInBounds_toArray, List.set_cons_zero, List.set_cons_succ] at hK ⊢
        obtain ⟨ve, hve⟩ : ∃ f : Nat → Value, f = vals := ⟨_, rfl⟩
        rw [← hve] at hK  ⊢
        clear hve
        refine gwp_none rfl ?_
        go_simp
        exact hK _ _ rfl (Below.refl _ _)
      refine And.intro (fun w1 vals hB hd K hK => ?_) ?_
      · have e7 : vals 7 = .slice a.ra a.rn a.rc := told_at (hd 7 rfl) rfl
        have e9 : vals 9 = .slice b.ra b.rn b.rc := told_at (hd 9 rfl) rfl
        have e10 : vals 10 = .func (.func 49) #[] #[.pointer (some ⟨p, 0, none⟩)] := told_at (hd 10 rfl) rfl
        clear hd
        simp only [putAll, Act.put, List.setIfInBounds_toArray, List.set_cons_zero, List.set_cons_succ] at hK ⊢
        simp only [e7, e9, e10] at hK ⊢
        obtain ⟨ve, hve⟩ : ∃ f : Nat → Value, f = vals := ⟨_, rfl⟩
        rw [← hve] at hK  ⊢
        clear e7 e9 e10 hve
        refine gwp_none rfl ?_
        go_simp
        refine (compareFunc_any nm UA LA un uc ln lc p L a.ra b.ra a.rn a.rc b.rn b.rc a.right b.right w1 w.heap.size (HBX.out w1 hB) (HRL.out w1 hB) (HSZ.out w1 hB) hz (HRa.out w1 hB) (HRb.out w1 hB) za.right zb.right).mono ?_
        rintro e w2 ⟨rfl, hb2⟩
        exact hK _ _ rfl hb2
      refine And.intro (fun w1 vals hB hd K hK => ?_) ?_
      · clear hd
        simp only [putAll, Act.put, List.setIfInBounds_toArray, List.set_cons_zero, List.set_cons_succ] at hK ⊢
        obtain ⟨ve, hve⟩ : ∃ f : Nat → Value, f = vals := ⟨_, rfl⟩
        rw [← hve] at hK  ⊢
        clear hve
        refine gwp_none rfl ?_
        go_simp
        exact hK _ _ rfl (Below.refl _ _)
      refine And.intro (fun w1 vals hB hd K hK => ?_) ?_
      · clear hd
        simp only [putAll, Act.put, List.setIfInBounds_toArray, List.set_cons_zero, List.set_cons_succ] at hK ⊢
        obtain ⟨ve, hve⟩ : ∃ f : Nat → Value, f = vals := ⟨_, rfl⟩
        rw [← hve] at hK  ⊢
        clear hve
        refine gwp_none rfl ?_
        go_simp
        exact hK _ _ rfl (Below.refl _ _)
      refine And.intro (fun w1 vals hB hd K hK => ?_) ?_
      · clear hd
        simp only [putAll, Act.put, List.setIfInBounds_toArray, List.set_cons_zero, List.set_cons_succ] at hK ⊢
        obtain ⟨ve, hve⟩ : ∃ f : Nat → Value, f = vals := ⟨_, rfl⟩
        rw [← hve] at hK  ⊢
        clear hve
        refine gwp_none rfl ?_
        go_simp
        exact hK _ _ rfl (Below.refl _ _)
      refine And.intro (fun w1 vals hB hd K hK => ?_) ?_
      · have e12 : vals 12 = .slice A6 m6 c6 := told_at (hd 12 rfl) rfl
        have e13 : vals 13 = .slice A7 m7 c7 := told_at (hd 13 rfl) rfl
        have e14 : vals 14 = .func (.func 49) #[] #[.pointer (some ⟨p, 0, none⟩)] := told_at (hd 14 rfl) rfl
        clear hd
        simp only [putAll, Act.put, List.setIfInBounds_toArray, List.set_cons_zero, List.set_cons_succ] at hK ⊢
        simp only [e12, e13, e14] at hK ⊢
        obtain ⟨ve, hve⟩ : ∃ f : Nat → Value, f = vals := ⟨_, rfl⟩
        rw [← hve] at hK  ⊢
        clear e12 e13 e14 hve
        refine gwp_none rfl ?_
        go_simp
        refine (compareFunc_any nm UA LA un uc ln lc p L A6 A7 m6 c6 m7 c7 a.left.reverse b.left.reverse w1 w.heap.size (HBX.out w1 hB) (HRL.out w1 hB) (HSZ.out w1 hB) hz (HX6.out w1 hB) (HX7.out w1 hB) (szs_rev za.left) (szs_rev zb.left)).mono ?_
        rintro e w2 ⟨rfl, hb2⟩
        exact hK _ _ rfl hb2
      refine And.intro (fun w1 vals hB hd K hK => ?_) ?_
      · clear hd
        simp only [putAll, Act.put, List.setIfInBounds_toArray, List.set_cons_zero, List.set_cons_succ] at hK ⊢
        obtain ⟨ve, hve⟩ : ∃ f : Nat → Value, f = vals := ⟨_, rfl⟩
        rw [← hve] at hK  ⊢
        clear hve
        refine gwp_none rfl ?_
        go_simp
        exact hK _ _ rfl (Below.refl _ _)
      refine And.intro (fun w1 vals hB hd K hK => ?_) ?_
      · have e16 : vals 16 = .pointer (some ⟨(p + 1), 0, none⟩) := told_at (hd 16 rfl) rfl
        clear hd
        simp only [putAll, Act.put, List.setIfInBounds_toArray, List.set_cons_zero, List.set_cons_succ] at hK ⊢
        simp only [e16] at hK ⊢
        obtain ⟨ve, hve⟩ : ∃ f : Nat → Value, f = vals := ⟨_, rfl⟩
        rw [← hve] at hK  ⊢
        clear e16 hve
        refine gwp_none rfl ?_
        go_simp
        exact hK _ _ rfl (Below.refl _ _)
      refine And.intro (fun w1 vals hB hd K hK => ?_) ?_
      · have e17 : vals 17 = .pointer (some ⟨(p + 1), 0, none⟩) := told_at (hd 17 rfl) rfl
        clear hd
        simp only [putAll, Act.put, List.setIfInBounds_toArray, List.set_cons_zero, List.set_cons_succ] at hK ⊢
        simp only [e17] at hK ⊢
        obtain ⟨ve, hve⟩ : ∃ f : Nat → Value, f = vals := ⟨_, rfl⟩
        rw [← hve] at hK  ⊢
        clear e17 hve
        refine gwp_none rfl ?_
        have hc := (HCa.out w1 hB) 0 _ rfl
        go_simp
        exact hK _ _ rfl (Below.refl _ _)
      refine And.intro (fun w1 vals hB hd K hK => ?_) ?_
      · clear hd
        simp only [putAll, Act.put, List.setIfInBounds_toArray, List.set_cons_zero, List.set_cons_succ] at hK ⊢
        obtain ⟨ve, hve⟩ : ∃ f : Nat → Value, f = vals := ⟨_, rfl⟩
        rw [← hve] at hK  ⊢
        clear hve
        refine gwp_none rfl ?_
        go_simp
        exact hK _ _ rfl (Below.refl _ _)
      refine And.intro (fun w1 vals hB hd K hK => ?_) ?_
      · have e19 : vals 19 = .pointer (some ⟨(p + 2), 0, none⟩) := told_at (hd 19 rfl) rfl
        clear hd
        simp only [putAll, Act.put, List.setIfInBounds_toArray, List.set_cons_zero, List.set_cons_succ] at hK ⊢
        simp only [e19] at hK ⊢
        obtain ⟨ve, hve⟩ : ∃ f : Nat → Value, f = vals := ⟨_, rfl⟩
        rw [← hve] at hK  ⊢
        clear e19 hve
        refine gwp_none rfl ?_
        go_simp
        exact hK _ _ rfl (Below.refl _ _)
      refine And.intro (fun w1 vals hB hd K hK => ?_) ?_
      · have e20 : vals 20 = .pointer (some ⟨(p + 2), 0, none⟩) := told_at (hd 20 rfl) rfl
        clear hd
        simp only [putAll, Act.put, List.setIfInBounds_toArray, List.set_cons_zero, List.set_cons_succ] at hK ⊢
        simp only [e20] at hK ⊢
        obtain ⟨ve, hve⟩ : ∃ f : Nat → Value, f = vals := ⟨_, rfl⟩
        rw [← hve] at hK  ⊢
        clear e20 hve
        refine gwp_none rfl ?_
        have hc := (HCb.out w1 hB) 0 _ rfl
        go_simp
        exact hK _ _ rfl (Below.refl _ _)
      refine And.intro (fun w1 vals hB hd K hK => ?_) ?_
      · have e18 : vals 18 = .int .i64 a.rid := told_at (hd 18 rfl) rfl
        have e21 : vals 21 = .int .i64 b.rid := told_at (hd 21 rfl) rfl
        clear hd
        simp only [putAll, Act.put, List.setIfInBounds_toArray, List.set_cons_zero, List.set_cons_succ] at hK ⊢
        simp only [e18, e21] at hK ⊢
        obtain ⟨ve, hve⟩ : ∃ f : Nat → Value, f = vals := ⟨_, rfl⟩
        rw [← hve] at hK  ⊢
        clear e18 e21 hve
        refine gwp_none rfl ?_
        go_simp
        refine (Tryz.cmp_Compare_int a.rid b.rid w1).mono ?_
        rintro e w2 ⟨rfl, rfl⟩
        exact hK _ _ rfl (Below.refl _ _)
      refine And.intro (fun w1 vals hB hd K hK => ?_) ?_
      · clear hd
        simp only [putAll, Act.put, List.setIfInBounds_toArray, List.set_cons_zero, List.set_cons_succ] at hK ⊢
        obtain ⟨ve, hve⟩ : ∃ f : Nat → Value, f = vals := ⟨_, rfl⟩
        rw [← hve] at hK  ⊢
        clear hve
        refine gwp_none rfl ?_
        go_simp
        exact hK _ _ rfl (Below.refl _ _)
      refine And.intro (fun w1 vals hB hd K hK => ?_) ?_
      · have e23 : vals 23 = .pointer (some ⟨(p + 1), 0, none⟩) := told_at (hd 23 rfl) rfl
        clear hd
        simp only [putAll, Act.put, List.setIfInBounds_toArray, List.set_cons_zero, List.set_cons_succ] at hK ⊢
        simp only [e23] at hK ⊢
        obtain ⟨ve, hve⟩ : ∃ f : Nat → Value, f = vals := ⟨_, rfl⟩
        rw [← hve] at hK  ⊢
        clear e23 hve
        refine gwp_none rfl ?_
        go_simp
        exact hK _ _ rfl (Below.refl _ _)
      refine And.intro (fun w1 vals hB hd K hK => ?_) ?_
      · have e24 : vals 24 = .pointer (some ⟨(p + 1), 1, none⟩) := told_at (hd 24 rfl) rfl
        clear hd
        simp only [putAll, Act.put, List.setIfInBounds_toArray, List.set_cons_zero, List.set_cons_succ] at hK ⊢
        simp only [e24] at hK ⊢
        obtain ⟨ve, hve⟩ : ∃ f : Nat → Value, f = vals := ⟨_, rfl⟩
        rw [← hve] at hK  ⊢
        clear e24 hve
        refine gwp_none rfl ?_
        have hc := (HCa.out w1 hB) 1 _ rfl
        go_simp
        exact hK _ _ rfl (Below.refl _ _)
      refine And.intro (fun w1 vals hB hd K hK => ?_) ?_
      · clear hd
        simp only [putAll, Act.put, List.setIfInBounds_toArray, List.set_cons_zero, List.set_cons_succ] at hK ⊢
        obtain ⟨ve, hve⟩ : ∃ f : Nat → Value, f = vals := ⟨_, rfl⟩
        rw [← hve] at hK  ⊢
        clear hve
        refine gwp_none rfl ?_
        go_simp
        exact hK _ _ rfl (Below.refl _ _)
      refine And.intro (fun w1 vals hB hd K hK => ?_) ?_
      · have e26 : vals 26 = .pointer (some ⟨(p + 2), 0, none⟩) := told_at (hd 26 rfl) rfl
        clear hd
        simp only [putAll, Act.put, List.setIfInBounds_toArray, List.set_cons_zero, List.set_cons_succ] at hK ⊢
        simp only [e26] at hK ⊢
        obtain ⟨ve, hve⟩ : ∃ f : Nat → Value, f = vals := ⟨_, rfl⟩
        rw [← hve] at hK  ⊢
        clear e26 hve
        refine gwp_none rfl ?_
        go_simp
        exact hK _ _ rfl (Below.refl _ _)
      refine And.intro (fun w1 vals hB hd K hK => ?_) ?_
      · have e27 : vals 27 = .pointer (some ⟨(p + 2), 1, none⟩) := told_at (hd 27 rfl) rfl
        clear hd
        simp only [putAll, Act.put, List.setIfInBounds_toArray, List.set_cons_zero, List.set_cons_succ] at hK ⊢
        simp only [e27] at hK ⊢
        obtain ⟨ve, hve⟩ : ∃ f : Nat → Value, f = vals := ⟨_, rfl⟩
        rw [← hve] at hK  ⊢
        clear e27 hve
        refine gwp_none rfl ?_
        have hc := (HCb.out w1 hB) 1 _ rfl
        go_simp
        exact hK _ _ rfl (Below.refl _ _)
      refine And.intro (fun w1 vals hB hd K hK => ?_) ?_
      · have e25 : vals 25 = .int .i64 a.nid := told_at (hd 25 rfl) rfl
        have e28 : vals 28 = .int .i64 b.nid := told_at (hd 28 rfl) rfl
        clear hd
        simp only [putAll, Act.put, List.setIfInBounds_toArray, List.set_cons_zero, List.set_cons_succ] at hK ⊢
        simp only [e25, e28] at hK ⊢
        obtain ⟨ve, hve⟩ : ∃ f : Nat → Value, f = vals := ⟨_, rfl⟩
        rw [← hve] at hK  ⊢
        clear e25 e28 hve
        refine gwp_none rfl ?_
        go_simp
        refine (Tryz.cmp_Compare_int a.nid b.nid w1).mono ?_
        rintro e w2 ⟨rfl, rfl⟩
        exact hK _ _ rfl (Below.refl _ _)
      refine And.intro (fun w1 vals hB hd K hK => ?_) ?_
      · have e5 : vals 5 = .int .i64 (cmpL L a.key b.key) := told_at (hd 5 rfl) rfl
        have e11 : vals 11 = .int .i64 (cmpT (cmpL L) a.right b.right) := told_at (hd 11 rfl) rfl
        have e15 : vals 15 = .int .i64 (cmpT (cmpL L) a.left.reverse b.left.reverse) := told_at (hd 15 rfl) rfl
        have e22 : vals 22 = .int .i64 (Lib.compareInt a.rid b.rid) := told_at (hd 22 rfl) rfl
        have e29 : vals 29 = .int .i64 (Lib.compareInt a.nid b.nid) := told_at (hd 29 rfl) rfl
        clear hd
        simp only [putAll, Act.put, List.setIfInBounds_toArray, List.set_cons_zero, List.set_cons_succ] at hK ⊢
        simp only [e5, e11, e15, e22, e29] at hK ⊢
        obtain ⟨ve, hve⟩ : ∃ f : Nat → Value, f = vals := ⟨_, rfl⟩
        rw [← hve] at hK  ⊢
        clear e5 e11 e15 e22 e29 hve
        refine gwp_none rfl ?_
        go_simp
        exact hK _ _ ⟨_, _, rfl, ir_new w1 3 [cmpL L a.key b.key, cmpT (cmpL L) a.right b.right, cmpT (cmpL L) a.left.reverse b.left.reverse, Lib.compareInt a.rid b.rid, Lib.compareInt a.nid b.nid] _ rfl _ rfl⟩ (below_new _ _)
      refine And.intro (fun w1 vals hB hd K hK => ?_) ?_
      · have p30 := told_at (t := Told.such (fun v w => ∃ A c, v = .slice A 5 c ∧ IR w w.heap.size A 5 [cmpL L a.key b.key, cmpT (cmpL L) a.right b.right, cmpT (cmpL L) a.left.reverse b.left.reverse, Lib.compareInt a.rid b.rid, Lib.compareInt a.nid b.nid]) (fun v w w' ⟨A, c, h1, h2⟩ hb => ⟨A, c, h1, IR.on h2 hb⟩)) (hd 30 rfl) rfl
        simp only [Told.holds] at p30
        clear hd
        obtain ⟨x30, hx30⟩ : ∃ x, vals 30 = x := ⟨_, rfl⟩
        rw [hx30] at p30
        simp only [putAll, Act.put, List.setIfInBounds_toArray, List.set_cons_zero, List.set_cons_succ] at hK ⊢
        simp only [hx30] at hK ⊢
        obtain ⟨ve, hve⟩ : ∃ f : Nat → Value, f = vals := ⟨_, rfl⟩
        rw [← hve] at hK  ⊢
        clear hx30 hve
        refine gwp_none rfl ?_
        obtain ⟨A, c, rfl, hir⟩ := p30
        go_simp
        refine (cmpOr_any A 5 c [cmpL L a.key b.key, cmpT (cmpL L) a.right b.right, cmpT (cmpL L) a.left.reverse b.left.reverse, Lib.compareInt a.rid b.rid, Lib.compareInt a.nid b.nid] w1 hir (by omega)).mono ?_
        rintro e w2 ⟨rfl, rfl⟩
        exact hK _ _ rfl (Below.refl _ _)
      refine And.intro (fun w1 vals hB hd K hK => ?_) ?_
      · have e31 : vals 31 = .int .i64 (cmpH L a.toHt b.toHt) := told_at (hd 31 rfl) rfl
        clear hd
        simp only [putAll, Act.put, List.setIfInBounds_toArray, List.set_cons_zero, List.set_cons_succ] at hK ⊢
        simp only [e31] at hK ⊢
        obtain ⟨ve, hve⟩ : ∃ f : Nat → Value, f = vals := ⟨_, rfl⟩
        rw [← hve] at hK  ⊢
        clear e31 hve
        refine gwp_none rfl ?_
        go_simp
        exact hK _ _ rfl (Below.refl _ _)
      exact trivial
    · intro w1 vals hB hd
      have e32 : vals 32 = .int .i64 (cmpH L a.toHt b.toHt) := told_at (hd 32 (by decide)) rfl
      clear hd
      simp only [putAll, Act.put, List.setIfInBounds_toArray, List.set_cons_zero, List.set_cons_succ]
      simp only [e32]
      obtain ⟨ve, hve⟩ : ∃ f : Nat → Value, f = vals := ⟨_, rfl⟩
      rw [← hve]
      clear e32 hve
      go_wp2
      go_ret
      exact ⟨rfl, HB.out.trans ((HW3.out w1 hB).mono HB.out.size)⟩
end Go.Proofs.YtdpllfgnppeneaaGreatDoor
