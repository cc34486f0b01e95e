/-
  ConcordOrder: the law, walked.
-/
import Derived.Test.YtdpllfgnppeneaaDoorLaw39C
import Derived.Test.YtdpllfgnppeneaaDoorSortL39
import Derived.Test.YtdpllfgnppeneaaDoorSameH
namespace Go.Proofs.YtdpllfgnppeneaaDoor
open Go.RowKit Ru Lay Srt Col
attribute [local go_sem ↓] Go.wp_at_zero Go.wp_at_succ
set_option linter.unusedVariables false
set_option linter.unusedSimpArgs false

theorem strict_unique {α : Type} {c : α → α → Int} (hc : IsCmp c) {ys zs : List α} (hp : zs.Perm ys) (hs : zs.Pairwise fun a b => c a b ≤ 0) (hst : ys.Pairwise fun a b => c a b < 0) : zs = ys := by
  refine List.Perm.eq_of_pairwise (le := fun a b => c a b ≤ 0) (fun a b ha hb h1 h2 => ?_) hs (hst.imp fun h => by omega) hp
  have h0 : c a b = 0 := by have := hc.anti a b; omega
  obtain ⟨i, hi⟩ := List.getElem?_of_mem (hp.mem_iff.1 ha)
  obtain ⟨j, hj⟩ := List.getElem?_of_mem hb
  obtain ⟨hil, hix⟩ := List.getElem?_eq_some_iff.1 hi
  obtain ⟨hjl, hjy⟩ := List.getElem?_eq_some_iff.1 hj
  rcases Nat.lt_trichotomy i j with h | h | h
  · have := List.pairwise_iff_getElem.1 hst i j hil hjl h
    rw [hix, hjy] at this
    omega
  · subst h; rw [hi] at hj; cases hj; rfl
  · have := List.pairwise_iff_getElem.1 hst j i hjl hil h
    rw [hix, hjy] at this
    have := hc.anti a b
    omega
theorem adj_pairwise {α : Type} {c : α → α → Int} (hc : IsCmp c) {ys : List α} (h : ∀ j x y, ys[j]? = some x → ys[j + 1]? = some y → c x y < 0) : ys.Pairwise fun a b => c a b < 0 := by
  rw [List.pairwise_iff_getElem]
  intro i j hi hj hij
  obtain ⟨d, rfl⟩ : ∃ d, j = i + 1 + d := ⟨j - (i + 1), by omega⟩
  clear hij
  induction d with
  | zero => exact h i _ _ (List.getElem?_eq_getElem hi) (List.getElem?_eq_getElem hj)
  | succ d ih =>
    have h1 := ih (by omega)
    have h2 := h (i + 1 + d) _ _ (List.getElem?_eq_getElem (by omega)) (List.getElem?_eq_getElem hj)
    have h3 := hc.trans _ _ _ (show c ys[i] ys[i + 1 + d] ≤ 0 by omega) (show c ys[i + 1 + d] ys[i + 1 + (d + 1)] ≤ 0 by exact Int.le_of_lt h2)
    rcases Int.lt_or_eq_of_le h3.1 with g | g
    · exact g
    · have := (h3.2 g).1
      omega
theorem sorted_next {α : Type} {c : α → α → Int} (hc : IsCmp c) {ys : List α} (hs : ys.Pairwise fun a b => c a b ≤ 0) {j k : Nat} {x y : α} (hx : ys[j]? = some x) (hy : ys[k]? = some y) (h : j < k) : ¬ c y x < 0 := by
  obtain ⟨hil, hix⟩ := List.getElem?_eq_some_iff.1 hx
  obtain ⟨hjl, hjy⟩ := List.getElem?_eq_some_iff.1 hy
  have := List.pairwise_iff_getElem.1 hs j k hil hjl h
  rw [hix, hjy] at this
  have := hc.anti x y
  omega
theorem drop_back {α : Type} {l : List α} {k : Nat} {x : α} (h : l[k]? = some x) : (l.drop k).reverse = (l.drop (k + 1)).reverse ++ [x] := by
  obtain ⟨hil, hix⟩ := List.getElem?_eq_some_iff.1 h
  rw [List.drop_eq_getElem_cons hil, List.reverse_cons, hix]
/-- The cells of a line at an address. -/
structure Cel (w : World) (a : Addr) (x : Hv) : Prop where
  p0 : w.cell? a = some (.int .i64 x.rid)
  p1 : w.cell? ⟨a.block, a.off + 1, none⟩ = some (.int .i64 x.nid)
  p2 : w.cell? ⟨a.block, a.off + 2, none⟩ = some (.slice x.la x.ln x.lc)
  p3 : w.cell? ⟨a.block, a.off + 3, none⟩ = some (.string x.key)
  p4 : w.cell? ⟨a.block, a.off + 4, none⟩ = some (.slice x.ra x.rn x.rc)
set_option maxHeartbeats 8000000 in
set_option maxRecDepth 100000 in
theorem concordOrder_any (SA UA LA : Option Addr) (sn sc un uc ln lc : Nat) (nm : ByteArray) (S : List (ByteArray × Int)) (U : List (ByteArray × List Int)) (L : List (List ByteArray)) (A : Option Addr) (n c : Nat) (l : List Hv) (w : World) (hS : SegsR w w.heap.size SA sn S) (hU : UnitsR w w.heap.size UA un U) (hL : RowsR w w.heap.size LA ln L)
    (hB : Bulk39 S nm U L) (hz : SizedL L) (hl : HitsR w w.heap.size A n l) (hn : n ≤ 9223372036854775807) (hT : Tabs w) :
    Calls Tryd.prog 6 #[.agg #[.slice SA sn sc], .agg #[.string nm, .slice UA un uc, .slice LA ln lc], .slice A n c] w fun e w' => e = .returned (.bool true) ∧ Below w.heap.size w w' := by
  have HAW := Lib.hid fun (W : World) (hW : Below w.heap.size w W) => awake39_any W (hT.on hW)
  have HRT := Lib.hid fun (W : World) (hW : Below w.heap.size w W) (r : Bool) (h : right39 S nm U L = r) => right_yes (sc := sc) (uc := uc) (lc := lc) ((hS.below hW).more' hW.size) ((hU.below hW).more' hW.size) (rows_more (hL.below hW) hW.size) hB h
  have HHL := Lib.hid fun (W : World) (hW : Below w.heap.size w W) => hl.on hW
  have HRL := Lib.hid fun (W : World) (hW : Below w.heap.size w W) => rows_more (hL.below hW) hW.size
  have HZ := Lib.hid hz
  have HLN := Lib.hid hl.len
  clear hS hU hL hl hT hz hB
  go_enter Tryd.func6, Tryd.ntmps6
  go_upto_region 1 with fail
  obtain ⟨W0, hW0⟩ : ∃ W0, ((w.alloc (.cells #[.slice SA sn sc] 24)).alloc (.cells #[.string nm, .slice UA un uc, .slice LA ln lc] 28)) = W0 := ⟨_, rfl⟩
  have HB0 : Hid (Below w.heap.size w W0) := by rw [← hW0]; exact (((Below.refl _ _).alloc (by simp <;> omega) _).alloc (by simp <;> omega) _)
  have hz0 : W0.heap.size = w.heap.size + 2 := by rw [← hW0]; simp
  have HC0 : Hid (∀ X, Below W0.heap.size W0 X → X.rangeAt (w.heap.size) 0 [.slice SA sn sc] ∧ X.rangeAt (w.heap.size + 1) 0 [.string nm, .slice UA un uc, .slice LA ln lc]) := fun X hX => by
    refine ⟨?_, ?_⟩
    · refine range_below hX (by omega) fun j v hv => ?_
      rw [← hW0, Nat.zero_add]; rw [World.cell?_alloc_lt _ _ _ (by simp <;> omega)]; rw [World.cell?_alloc_at _ _ _ _ (by simp), ← hv, ← List.getElem?_toArray]; try rfl
    · refine range_below hX (by omega) fun j v hv => ?_
      rw [← hW0, Nat.zero_add]; rw [World.cell?_alloc_at _ _ _ _ (by simp), ← hv, ← List.getElem?_toArray]; try rfl
  (try rw [hW0])
  clear hW0
  obtain ⟨g0, g1⟩ := HC0.out W0 (Below.refl _ _)
  have q0 : W0.cell? ⟨w.heap.size, 0, none⟩ = some (.slice SA sn sc) := g0 0 _ rfl
  have k0 : W0.cell? ⟨w.heap.size + 1, 0, none⟩ = some (.string nm) := g1 0 _ rfl
  have k1 : W0.cell? ⟨w.heap.size + 1, 1, none⟩ = some (.slice UA un uc) := g1 1 _ rfl
  have k2 : W0.cell? ⟨w.heap.size + 1, 2, none⟩ = some (.slice LA ln lc) := g1 2 _ rfl
  clear g0 g1
  cases hr : right39 S nm U L with
  | false =>
    have HR1 := Lib.hid (HRT.out W0 HB0.out false hr)
    clear hr
    go_wp2_with fail
    refine HR1.out.mono ?_
    rintro e w1 ⟨rfl, hb1⟩
    have HB1 : Hid (Below w.heap.size w w1) := HB0.out.trans (hb1.mono HB0.out.size)
    clear hb1 q0 k0 k1 k2
    go_wp2_with fail
    refine (HAW.out _ HB1.out).mono ?_
    rintro e w5 ⟨rfl, hb5⟩
    have HB5 : Hid (Below w.heap.size w w5) := HB1.out.trans (hb5.mono HB1.out.size)
    clear hb5
    go_wp2
    go_ret
    exact ⟨rfl, HB5.out⟩
  | true =>
    have HR1 := Lib.hid (HRT.out W0 HB0.out true hr)
    clear hr
    go_wp2_with fail
    refine HR1.out.mono ?_
    rintro e w1 ⟨rfl, hb1⟩
    have HB01 : Hid (Below W0.heap.size W0 w1) := hb1
    have HB1 : Hid (Below w.heap.size w w1) := HB0.out.trans (hb1.mono HB0.out.size)
    have hz1 := hb1.size
    clear hb1 q0 k0 k1 k2
    by_cases hf : FewL (l.map Hv.toHt)
    · have HF := Lib.hid (few_yes (c := c) (HHL.out _ HB1.out) hn hf)
      have hn1 : n ≤ 1000 := by have h1 := hf.1; rw [List.length_map, HLN.out] at h1; omega
      have hzz : ∀ x ∈ l, HvZ x.toHt := fun x hx => (hf.2 _ (List.mem_map_of_mem hx)).sz
      have HZZ := Lib.hid hzz
      have HS1 := Lib.hid fun (W : World) (hW : Below w.heap.size w W) => sort39L_any nm UA LA un uc ln lc L A n c l W (HRL.out W hW) HZ.out (HHL.out W hW) hn1 hzz
      have HCI : Hid (IsCmp fun x y : Hv => cmpH L x.toHt y.toHt) := (cmpH_is L).comap Hv.toHt
      clear hf hzz
      go_wp2_with fail
      refine HF.out.mono ?_
      rintro e w3 ⟨rfl, rfl⟩
      clear HF HR1 HRT
      have HB3 := HB1
      have HB03 := HB01
      clear HB1 HB01
      obtain ⟨gq0, gq1⟩ := HC0.out w3 HB03.out
      have k0 : w3.cell? ⟨w.heap.size + 1, 0, none⟩ = some (.string nm) := gq1 0 _ rfl
      have k1 : w3.cell? ⟨w.heap.size + 1, 1, none⟩ = some (.slice UA un uc) := gq1 1 _ rfl
      have k2 : w3.cell? ⟨w.heap.size + 1, 2, none⟩ = some (.slice LA ln lc) := gq1 2 _ rfl
      clear gq0 gq1
      go_wp2_with fail
      refine (HS1.out w3 HB3.out).mono ?_
      rintro e w4 ⟨v4, rfl, ys, h1, h2, h3, hb4⟩
      obtain ⟨A1, c1, rfl, hc1, hc2, f1⟩ := OwnR.form h1
      have hyl : ys.length = n := h2.perm.length_eq.trans HLN.out
      rw [hyl] at f1 hc1 ⊢
      have HYR : Hid (HitsR w4 w4.heap.size A1 n ys) := ⟨f1, h3⟩
      have HST := Lib.hid h2
      have HYL := Lib.hid hyl
      have HB4 : Hid (Below w.heap.size w w4) := HB3.out.trans (hb4.mono HB3.out.size)
      have HB04 : Hid (Below W0.heap.size W0 w4) := HB03.out.trans (hb4.mono HB03.out.size)
      have hsz4 := hb4.size
      clear h1 h2 h3 f1 hb4 hyl HS1 k0 k1 k2 HB3 HB03
      have hnn : ((n : Int) == (n : Int)) = true := beq_self_eq_true _
      have rk : IntKind.i64.wrap ((n : Int) - 1) = (n : Int) - 1 := by rw [IntKind.wrap_i64]; omega
      go_wp2_with fail
      go_loopw [8, 10] (fun v8 v10 wr => ∃ (j : Nat) (z : Int), j ≤ n ∧ v10 = .int .i64 z ∧ z = (j : Int) - 1 ∧ Hid (OwnR encH 5 33 wr w4.heap.size v8 ((l.drop j).reverse)) ∧ Hid (Below w4.heap.size w4 wr)) (fun _ v10 _ => (intOf v10 + 1).toNat)
      case atStart => exact ⟨n, _, Nat.le_refl _, rfl, rfl, (by rw [List.drop_of_length_le (by rw [HLN.out]; exact Nat.le_refl _)]; exact OwnR.nil), Below.refl _ _⟩
      case round =>
        obtain ⟨j, z, hj, rfl, hz, HO, HB5⟩ := hrel
        obtain ⟨w5, hw5⟩ : ∃ w5, wr = w5 := ⟨_, rfl⟩
        rw [hw5] at HO HB5 ⊢
        clear hw5 rk
        have HBW5 : Hid (Below w.heap.size w w5) := HB4.out.trans (HB5.out.mono HB4.out.size)
        by_cases hj0 : j = 0
        · obtain rfl : z = -1 := by omega
          have HO0 : Hid (OwnR encH 5 33 w5 w4.heap.size u8 l.reverse) := by
            have h9 := HO.out
            rw [hj0, List.drop_zero] at h9
            exact h9
          clear hj0 hz hj HO
          obtain ⟨A2, c2, hv2, hd1, hd2, f2⟩ := OwnR.form HO0.out
          rw [List.length_reverse, HLN.out] at hv2 hd1 f2
          subst hv2
          have HTR : Hid (∀ W, Below w5.heap.size w5 W → HitsR W W.heap.size A2 n l.reverse) := fun W hW => ⟨f2.on hW, fun x hx => (HHL.out W (HBW5.out.trans (hW.mono HBW5.out.size))).2 x (List.mem_reverse.1 hx)⟩
          clear f2 HO0
          go_wp2_with fail
          go_loopw [9, 11] (fun v9 v11 wr => ∃ (k : Nat) (b : Bool), 1 ≤ k ∧ k ≤ n + 1 ∧ v11 = .int .i64 k ∧ v9 = .bool b ∧ Hid (b = true → ∀ j x y, j + 1 < k → ys[j]? = some x → ys[j + 1]? = some y → cmpH L x.toHt y.toHt < 0) ∧ Hid (Below w5.heap.size w5 wr)) (fun _ v11 _ => n - (intOf v11).toNat)
          case atStart => exact ⟨1, true, Nat.le_refl _, by omega, rfl, (by first | rfl | simp), fun _ j x y h => by omega, Below.refl _ _⟩
          case round =>
            obtain ⟨k, b, hk1, hkn1, rfl, rfl, HD, HB6⟩ := hrel
            obtain ⟨w6, hw6⟩ : ∃ w6, wr = w6 := ⟨_, rfl⟩
            rw [hw6] at HB6 ⊢
            clear hw6
            have HB46 : Hid (Below w4.heap.size w4 w6) := HB5.out.trans (HB6.out.mono HB5.out.size)
            have HBW6 : Hid (Below w.heap.size w w6) := HBW5.out.trans (HB6.out.mono HBW5.out.size)
            by_cases hlt : k < n
            · have hkz : (k : Int) < (n : Int) := by omega
              have hkA : (0 : Int) ≤ (k : Int) := by omega
              obtain ⟨m, hm⟩ : ∃ m, k = m + 1 := ⟨k - 1, by omega⟩
              have hm1 : IntKind.i64.wrap ((k : Int) - 1) = (m : Int) := by rw [IntKind.wrap_i64]; omega
              have hm2 : (k : Int) - 1 = (m : Int) := by omega
              have hmz : (m : Int) < (n : Int) := by omega
              have hmA : (0 : Int) ≤ (m : Int) := by omega
              have HKM := Lib.hid hm
              have HI := Lib.hid hlt
              obtain ⟨a1, x, rfl, hab, hx, hvx, p0, p1, p2, p3, p4⟩ := HYR.out.at_ hlt
              obtain ⟨a1', y, ha1, hab', hy, hvy, q0, q1, q2, q3, q4⟩ := HYR.out.at_ (k := m) (by omega)
              cases ha1
              have hxm := HST.out.perm.mem_iff.1 (List.mem_of_getElem? hx)
              have hym := HST.out.perm.mem_iff.1 (List.mem_of_getElem? hy)
              have HPX : Hid (Cel w4 (a1.add (k * 5)) x) := ⟨p0, p1, p2, p3, p4⟩
              have HPY : Hid (Cel w4 (a1.add (m * 5)) y) := ⟨q0, q1, q2, q3, q4⟩
              have hla : (a1.add (k * 5)).block < w4.heap.size := by rw [block_of_add]; exact hab
              have hlb : (a1.add (m * 5)).block < w4.heap.size := by rw [block_of_add]; exact hab
              have HLX : Hid (∀ W, Below w4.heap.size w4 W → Calls Tryd.prog 12 #[.agg #[.string nm, .slice UA un uc, .slice LA ln lc], .agg #[.int .i64 x.rid, .int .i64 x.nid, .slice x.la x.ln x.lc, .string x.key, .slice x.ra x.rn x.rc], .agg #[.int .i64 y.rid, .int .i64 y.nid, .slice y.la y.ln y.lc, .string y.key, .slice y.ra y.rn y.rc]] W fun e w' => e = .returned (.bool false) ∧ Below W.heap.size W w') := fun W hW => by
                have h9 := less_any nm UA LA un uc ln lc L x y W (HRL.out W (HB4.out.trans (hW.mono HB4.out.size))) HZ.out (hvx.on hW) (hvy.on hW) (HZZ.out x hxm) (HZZ.out y hym)
                rw [decide_eq_false (sorted_next HCI.out HST.out.sorted hy hx (by omega))] at h9
                exact h9
              obtain ⟨b2, hb2⟩ : ∃ b2, decide (cmpH L y.toHt x.toHt < 0) = b2 := ⟨_, rfl⟩
              have HLY : Hid (∀ W, Below w4.heap.size w4 W → Calls Tryd.prog 12 #[.agg #[.string nm, .slice UA un uc, .slice LA ln lc], .agg #[.int .i64 y.rid, .int .i64 y.nid, .slice y.la y.ln y.lc, .string y.key, .slice y.ra y.rn y.rc], .agg #[.int .i64 x.rid, .int .i64 x.nid, .slice x.la x.ln x.lc, .string x.key, .slice x.ra x.rn x.rc]] W fun e w' => e = .returned (.bool b2) ∧ Below W.heap.size W w') := fun W hW => by
                have h9 := less_any nm UA LA un uc ln lc L y x W (HRL.out W (HB4.out.trans (hW.mono HB4.out.size))) HZ.out (hvy.on hW) (hvx.on hW) (HZZ.out y hym) (HZZ.out x hxm)
                rw [hb2] at h9
                exact h9
              have HNX : Hid (b = true → b2 = true → ∀ j x y, j + 1 < k + 1 → ys[j]? = some x → ys[j + 1]? = some y → cmpH L x.toHt y.toHt < 0) := fun e1 e2 j x' y' h1 h2 h3 => by
                by_cases e : j = m
                · subst e
                  rw [hy] at h2; cases h2
                  rw [← HKM.out, hx] at h3; cases h3
                  rw [e2] at hb2
                  exact of_decide_eq_true hb2
                · exact HD.out e1 j x' y' (by have := HKM.out; omega) h2 h3
              clear hx hy hvx hvy hxm hym p0 p1 p2 p3 p4 q0 q1 q2 q3 q4 hb2 hm HD
              have HBPw6 : Hid (∀ p : BW w6, Below w4.heap.size w4 p.at_) := fun p => HB46.out.trans (p.bel.mono HB46.out.size)
              have HBQw6 : Hid (∀ p : BW w6, Below w.heap.size w p.at_) := fun p => HB4.out.trans ((HBPw6.out p).mono HB4.out.size)
              have HBOw6 : Hid (∀ p : BW w6, Below W0.heap.size W0 p.at_) := fun p => HB04.out.trans ((HBPw6.out p).mono HB04.out.size)
              have g0 : ∀ p : BW w6, p.at_.cell? ⟨w.heap.size + 1, 0, none⟩ = some (.string nm) := fun p => (HC0.out p.at_ (HBOw6.out p)).2 0 _ rfl
              have g1 : ∀ p : BW w6, p.at_.cell? ⟨w.heap.size + 1, 1, none⟩ = some (.slice UA un uc) := fun p => (HC0.out p.at_ (HBOw6.out p)).2 1 _ rfl
              have g2 : ∀ p : BW w6, p.at_.cell? ⟨w.heap.size + 1, 2, none⟩ = some (.slice LA ln lc) := fun p => (HC0.out p.at_ (HBOw6.out p)).2 2 _ rfl
              have r0 : ∀ p : BW w6, p.at_.cell? (a1.add (k * 5)) = some (.int .i64 x.rid) := fun p => ((HBPw6.out p).cell hla).trans HPX.out.p0
              have r1 : ∀ p : BW w6, p.at_.cell? ⟨(a1.add (k * 5)).block, (a1.add (k * 5)).off + 1, none⟩ = some (.int .i64 x.nid) := fun p => ((HBPw6.out p).cell (p := ⟨_, _, none⟩) hla).trans HPX.out.p1
              have r2 : ∀ p : BW w6, p.at_.cell? ⟨(a1.add (k * 5)).block, (a1.add (k * 5)).off + 2, none⟩ = some (.slice x.la x.ln x.lc) := fun p => ((HBPw6.out p).cell (p := ⟨_, _, none⟩) hla).trans HPX.out.p2
              have r3 : ∀ p : BW w6, p.at_.cell? ⟨(a1.add (k * 5)).block, (a1.add (k * 5)).off + 3, none⟩ = some (.string x.key) := fun p => ((HBPw6.out p).cell (p := ⟨_, _, none⟩) hla).trans HPX.out.p3
              have r4 : ∀ p : BW w6, p.at_.cell? ⟨(a1.add (k * 5)).block, (a1.add (k * 5)).off + 4, none⟩ = some (.slice x.ra x.rn x.rc) := fun p => ((HBPw6.out p).cell (p := ⟨_, _, none⟩) hla).trans HPX.out.p4
              have s0 : ∀ p : BW w6, p.at_.cell? (a1.add (m * 5)) = some (.int .i64 y.rid) := fun p => ((HBPw6.out p).cell hlb).trans HPY.out.p0
              have s1 : ∀ p : BW w6, p.at_.cell? ⟨(a1.add (m * 5)).block, (a1.add (m * 5)).off + 1, none⟩ = some (.int .i64 y.nid) := fun p => ((HBPw6.out p).cell (p := ⟨_, _, none⟩) hlb).trans HPY.out.p1
              have s2 : ∀ p : BW w6, p.at_.cell? ⟨(a1.add (m * 5)).block, (a1.add (m * 5)).off + 2, none⟩ = some (.slice y.la y.ln y.lc) := fun p => ((HBPw6.out p).cell (p := ⟨_, _, none⟩) hlb).trans HPY.out.p2
              have s3 : ∀ p : BW w6, p.at_.cell? ⟨(a1.add (m * 5)).block, (a1.add (m * 5)).off + 3, none⟩ = some (.string y.key) := fun p => ((HBPw6.out p).cell (p := ⟨_, _, none⟩) hlb).trans HPY.out.p3
              have s4 : ∀ p : BW w6, p.at_.cell? ⟨(a1.add (m * 5)).block, (a1.add (m * 5)).off + 4, none⟩ = some (.slice y.ra y.rn y.rc) := fun p => ((HBPw6.out p).cell (p := ⟨_, _, none⟩) hlb).trans HPY.out.p4
              have HC1 : Hid (∀ p : BW w6, Calls Tryd.prog 12 #[.agg #[.string nm, .slice UA un uc, .slice LA ln lc], .agg #[.int .i64 x.rid, .int .i64 x.nid, .slice x.la x.ln x.lc, .string x.key, .slice x.ra x.rn x.rc], .agg #[.int .i64 y.rid, .int .i64 y.nid, .slice y.la y.ln y.lc, .string y.key, .slice y.ra y.rn y.rc]] p.at_ fun e w' => e = .returned (.bool false) ∧ Below p.at_.heap.size p.at_ w') := fun p => HLX.out p.at_ (HBPw6.out p)
              clear HBPw6 HBQw6 HBOw6
              go_wp2_with fail
              refine wp_region_quiet_below (by kernel_rfl) (by kernel_rfl) ?_
              repeat (go_big_quiet_step ((exact below_quiet (HC1.out _))))
              refine wpQuiet_nil ?_
              intro w7 hw'
              have hb9 := bw_below hw'
              clear hw' g0 g1 g2 r0 r1 r2 r3 r4 s0 s1 s2 s3 s4
              have HB7 : Hid (Below w5.heap.size w5 w7) := HB6.out.trans (hb9.mono HB6.out.size)
              have HB47 : Hid (Below w4.heap.size w4 w7) := HB5.out.trans (HB7.out.mono HB5.out.size)
              clear hb9
              go_wp2_with fail
              cases b with
              | false =>
                have HBPw7 : Hid (∀ p : BW w7, Below w4.heap.size w4 p.at_) := fun p => HB47.out.trans (p.bel.mono HB47.out.size)
                have HBQw7 : Hid (∀ p : BW w7, Below w.heap.size w p.at_) := fun p => HB4.out.trans ((HBPw7.out p).mono HB4.out.size)
                have HBOw7 : Hid (∀ p : BW w7, Below W0.heap.size W0 p.at_) := fun p => HB04.out.trans ((HBPw7.out p).mono HB04.out.size)
                have g0 : ∀ p : BW w7, p.at_.cell? ⟨w.heap.size + 1, 0, none⟩ = some (.string nm) := fun p => (HC0.out p.at_ (HBOw7.out p)).2 0 _ rfl
                have g1 : ∀ p : BW w7, p.at_.cell? ⟨w.heap.size + 1, 1, none⟩ = some (.slice UA un uc) := fun p => (HC0.out p.at_ (HBOw7.out p)).2 1 _ rfl
                have g2 : ∀ p : BW w7, p.at_.cell? ⟨w.heap.size + 1, 2, none⟩ = some (.slice LA ln lc) := fun p => (HC0.out p.at_ (HBOw7.out p)).2 2 _ rfl
                have r0 : ∀ p : BW w7, p.at_.cell? (a1.add (k * 5)) = some (.int .i64 x.rid) := fun p => ((HBPw7.out p).cell hla).trans HPX.out.p0
                have r1 : ∀ p : BW w7, p.at_.cell? ⟨(a1.add (k * 5)).block, (a1.add (k * 5)).off + 1, none⟩ = some (.int .i64 x.nid) := fun p => ((HBPw7.out p).cell (p := ⟨_, _, none⟩) hla).trans HPX.out.p1
                have r2 : ∀ p : BW w7, p.at_.cell? ⟨(a1.add (k * 5)).block, (a1.add (k * 5)).off + 2, none⟩ = some (.slice x.la x.ln x.lc) := fun p => ((HBPw7.out p).cell (p := ⟨_, _, none⟩) hla).trans HPX.out.p2
                have r3 : ∀ p : BW w7, p.at_.cell? ⟨(a1.add (k * 5)).block, (a1.add (k * 5)).off + 3, none⟩ = some (.string x.key) := fun p => ((HBPw7.out p).cell (p := ⟨_, _, none⟩) hla).trans HPX.out.p3
                have r4 : ∀ p : BW w7, p.at_.cell? ⟨(a1.add (k * 5)).block, (a1.add (k * 5)).off + 4, none⟩ = some (.slice x.ra x.rn x.rc) := fun p => ((HBPw7.out p).cell (p := ⟨_, _, none⟩) hla).trans HPX.out.p4
                have s0 : ∀ p : BW w7, p.at_.cell? (a1.add (m * 5)) = some (.int .i64 y.rid) := fun p => ((HBPw7.out p).cell hlb).trans HPY.out.p0
                have s1 : ∀ p : BW w7, p.at_.cell? ⟨(a1.add (m * 5)).block, (a1.add (m * 5)).off + 1, none⟩ = some (.int .i64 y.nid) := fun p => ((HBPw7.out p).cell (p := ⟨_, _, none⟩) hlb).trans HPY.out.p1
                have s2 : ∀ p : BW w7, p.at_.cell? ⟨(a1.add (m * 5)).block, (a1.add (m * 5)).off + 2, none⟩ = some (.slice y.la y.ln y.lc) := fun p => ((HBPw7.out p).cell (p := ⟨_, _, none⟩) hlb).trans HPY.out.p2
                have s3 : ∀ p : BW w7, p.at_.cell? ⟨(a1.add (m * 5)).block, (a1.add (m * 5)).off + 3, none⟩ = some (.string y.key) := fun p => ((HBPw7.out p).cell (p := ⟨_, _, none⟩) hlb).trans HPY.out.p3
                have s4 : ∀ p : BW w7, p.at_.cell? ⟨(a1.add (m * 5)).block, (a1.add (m * 5)).off + 4, none⟩ = some (.slice y.ra y.rn y.rc) := fun p => ((HBPw7.out p).cell (p := ⟨_, _, none⟩) hlb).trans HPY.out.p4
                clear HBPw7 HBQw7 HBOw7
                refine wp_region_quiet_below (by kernel_rfl) (by kernel_rfl) ?_
                repeat (go_big_quiet_step (fail))
                refine wpQuiet_nil ?_
                intro w8 hw'
                have hb9 := bw_below hw'
                clear hw' g0 g1 g2 r0 r1 r2 r3 r4 s0 s1 s2 s3 s4
                have HB8 : Hid (Below w5.heap.size w5 w8) := HB7.out.trans (hb9.mono HB7.out.size)
                clear hb9
                have HD8 : Hid (false = true → ∀ j x y, j + 1 < k + 1 → ys[j]? = some x → ys[j + 1]? = some y → cmpH L x.toHt y.toHt < 0) := fun h => by cases h
                go_wp2
                go_roundw
                case rel => exact ⟨k + 1, false, by omega, by omega, by go_num, rfl, HD8, HB8⟩
                case measure => have := HI.out; simp [intOf]; omega
              | true =>
                have HBPw7 : Hid (∀ p : BW w7, Below w4.heap.size w4 p.at_) := fun p => HB47.out.trans (p.bel.mono HB47.out.size)
                have HBQw7 : Hid (∀ p : BW w7, Below w.heap.size w p.at_) := fun p => HB4.out.trans ((HBPw7.out p).mono HB4.out.size)
                have HBOw7 : Hid (∀ p : BW w7, Below W0.heap.size W0 p.at_) := fun p => HB04.out.trans ((HBPw7.out p).mono HB04.out.size)
                have g0 : ∀ p : BW w7, p.at_.cell? ⟨w.heap.size + 1, 0, none⟩ = some (.string nm) := fun p => (HC0.out p.at_ (HBOw7.out p)).2 0 _ rfl
                have g1 : ∀ p : BW w7, p.at_.cell? ⟨w.heap.size + 1, 1, none⟩ = some (.slice UA un uc) := fun p => (HC0.out p.at_ (HBOw7.out p)).2 1 _ rfl
                have g2 : ∀ p : BW w7, p.at_.cell? ⟨w.heap.size + 1, 2, none⟩ = some (.slice LA ln lc) := fun p => (HC0.out p.at_ (HBOw7.out p)).2 2 _ rfl
                have r0 : ∀ p : BW w7, p.at_.cell? (a1.add (k * 5)) = some (.int .i64 x.rid) := fun p => ((HBPw7.out p).cell hla).trans HPX.out.p0
                have r1 : ∀ p : BW w7, p.at_.cell? ⟨(a1.add (k * 5)).block, (a1.add (k * 5)).off + 1, none⟩ = some (.int .i64 x.nid) := fun p => ((HBPw7.out p).cell (p := ⟨_, _, none⟩) hla).trans HPX.out.p1
                have r2 : ∀ p : BW w7, p.at_.cell? ⟨(a1.add (k * 5)).block, (a1.add (k * 5)).off + 2, none⟩ = some (.slice x.la x.ln x.lc) := fun p => ((HBPw7.out p).cell (p := ⟨_, _, none⟩) hla).trans HPX.out.p2
                have r3 : ∀ p : BW w7, p.at_.cell? ⟨(a1.add (k * 5)).block, (a1.add (k * 5)).off + 3, none⟩ = some (.string x.key) := fun p => ((HBPw7.out p).cell (p := ⟨_, _, none⟩) hla).trans HPX.out.p3
                have r4 : ∀ p : BW w7, p.at_.cell? ⟨(a1.add (k * 5)).block, (a1.add (k * 5)).off + 4, none⟩ = some (.slice x.ra x.rn x.rc) := fun p => ((HBPw7.out p).cell (p := ⟨_, _, none⟩) hla).trans HPX.out.p4
                have s0 : ∀ p : BW w7, p.at_.cell? (a1.add (m * 5)) = some (.int .i64 y.rid) := fun p => ((HBPw7.out p).cell hlb).trans HPY.out.p0
                have s1 : ∀ p : BW w7, p.at_.cell? ⟨(a1.add (m * 5)).block, (a1.add (m * 5)).off + 1, none⟩ = some (.int .i64 y.nid) := fun p => ((HBPw7.out p).cell (p := ⟨_, _, none⟩) hlb).trans HPY.out.p1
                have s2 : ∀ p : BW w7, p.at_.cell? ⟨(a1.add (m * 5)).block, (a1.add (m * 5)).off + 2, none⟩ = some (.slice y.la y.ln y.lc) := fun p => ((HBPw7.out p).cell (p := ⟨_, _, none⟩) hlb).trans HPY.out.p2
                have s3 : ∀ p : BW w7, p.at_.cell? ⟨(a1.add (m * 5)).block, (a1.add (m * 5)).off + 3, none⟩ = some (.string y.key) := fun p => ((HBPw7.out p).cell (p := ⟨_, _, none⟩) hlb).trans HPY.out.p3
                have s4 : ∀ p : BW w7, p.at_.cell? ⟨(a1.add (m * 5)).block, (a1.add (m * 5)).off + 4, none⟩ = some (.slice y.ra y.rn y.rc) := fun p => ((HBPw7.out p).cell (p := ⟨_, _, none⟩) hlb).trans HPY.out.p4
                have HC2 : Hid (∀ p : BW w7, Calls Tryd.prog 12 #[.agg #[.string nm, .slice UA un uc, .slice LA ln lc], .agg #[.int .i64 y.rid, .int .i64 y.nid, .slice y.la y.ln y.lc, .string y.key, .slice y.ra y.rn y.rc], .agg #[.int .i64 x.rid, .int .i64 x.nid, .slice x.la x.ln x.lc, .string x.key, .slice x.ra x.rn x.rc]] p.at_ fun e w' => e = .returned (.bool b2) ∧ Below p.at_.heap.size p.at_ w') := fun p => HLY.out p.at_ (HBPw7.out p)
                clear HBPw7 HBQw7 HBOw7
                refine wp_region_quiet_below (by kernel_rfl) (by kernel_rfl) ?_
                repeat (go_big_quiet_step ((exact below_quiet (HC2.out _))))
                refine wpQuiet_nil ?_
                intro w8 hw'
                have hb9 := bw_below hw'
                clear hw' g0 g1 g2 r0 r1 r2 r3 r4 s0 s1 s2 s3 s4
                have HB8 : Hid (Below w5.heap.size w5 w8) := HB7.out.trans (hb9.mono HB7.out.size)
                clear hb9
                have HD8 : Hid (b2 = true → ∀ j x y, j + 1 < k + 1 → ys[j]? = some x → ys[j + 1]? = some y → cmpH L x.toHt y.toHt < 0) := fun h => HNX.out rfl h
                go_wp2
                go_roundw
                case rel => exact ⟨k + 1, b2, by omega, by omega, by go_num, rfl, HD8, HB8⟩
                case measure => have := HI.out; simp [intOf]; omega
            · have hkz : ¬ (k : Int) < (n : Int) := by omega
              have HB04' := HC0.out w6 (HB04.out.trans (HB46.out.mono HB04.out.size))
              obtain ⟨gq0, gq1⟩ := HB04'
              have k0 : w6.cell? ⟨w.heap.size + 1, 0, none⟩ = some (.string nm) := gq1 0 _ rfl
              have k1 : w6.cell? ⟨w.heap.size + 1, 1, none⟩ = some (.slice UA un uc) := gq1 1 _ rfl
              have k2 : w6.cell? ⟨w.heap.size + 1, 2, none⟩ = some (.slice LA ln lc) := gq1 2 _ rfl
              clear gq0 gq1
              cases b with
              | false =>
                go_wp2_with fail
                refine (HAW.out _ HBW6.out).mono ?_
                rintro e w8 ⟨rfl, hb8⟩
                have HB8 : Hid (Below w.heap.size w w8) := HBW6.out.trans (hb8.mono HBW6.out.size)
                clear hb8
                go_wp2
                go_ret
                exact ⟨rfl, HB8.out⟩
              | true =>
                have HSTR : Hid (ys.Pairwise fun a b : Hv => cmpH L a.toHt b.toHt < 0) := adj_pairwise HCI.out fun j x y h1 h2 => HD.out rfl j x y (by have := (List.getElem?_eq_some_iff.1 h2).1; have := HYL.out; omega) h1 h2
                have HS3 := Lib.hid (sort39L_any nm UA LA un uc ln lc L A2 n c2 l.reverse w6 (HRL.out w6 HBW6.out) HZ.out (HTR.out w6 HB6.out) hn1 (fun x hx => HZZ.out x (List.mem_reverse.1 hx)))
                clear HD
                go_wp2_with fail
                refine HS3.out.mono ?_
                rintro e w8 ⟨v8, rfl, zs, h1, h2, h3, hb8⟩
                obtain rfl : zs = ys := strict_unique HCI.out (h2.perm.trans ((List.reverse_perm l).trans HST.out.perm.symm)) h2.sorted HSTR.out
                obtain ⟨A3, c3, rfl, _, _, f3⟩ := OwnR.form h1
                rw [HYL.out] at f3 ⊢
                have HB8 : Hid (Below w.heap.size w w8) := HBW6.out.trans (hb8.mono HBW6.out.size)
                have HSM := Lib.hid (sameH_any A3 A1 n c3 c1 zs zs w8 rfl ⟨f3, h3⟩ (HYR.out.on (HB46.out.trans (hb8.mono HB46.out.size))) hn)
                clear h1 h2 h3 f3 hb8 HS3
                go_wp2_with fail
                refine HSM.out.mono ?_
                rintro e w9 ⟨rfl, hb9⟩
                have HB9 : Hid (Below w.heap.size w w9) := HB8.out.trans (hb9.mono HB8.out.size)
                clear hb9
                go_wp2_with fail
                refine (HAW.out _ HB9.out).mono ?_
                rintro e w10 ⟨rfl, hb10⟩
                have HB10 : Hid (Below w.heap.size w w10) := HB9.out.trans (hb10.mono HB9.out.size)
                clear hb10
                go_wp2
                go_ret
                exact ⟨rfl, HB10.out⟩
        · obtain ⟨k, hk⟩ : ∃ k, j = k + 1 := ⟨j - 1, by omega⟩
          subst hk
          obtain rfl : z = (k : Int) := by omega
          have hkn : k < n := by omega
          have hkz : (k : Int) < (n : Int) := by omega
          have hkA : (0 : Int) ≤ (k : Int) := by omega
          obtain ⟨al, x, rfl, hab, hx, _, p0, p1, p2, p3, p4⟩ := (HHL.out w5 HBW5.out).at_ hkn
          have HNX := Lib.hid (drop_back hx)
          have hll : ((l.drop (k + 1)).reverse).length ≤ 1000 := by rw [List.length_reverse, List.length_drop, HLN.out]; omega
          obtain ⟨acc, hacc⟩ : ∃ acc, (l.drop (k + 1)).reverse = acc := ⟨_, rfl⟩
          rw [hacc] at HO HNX hll
          have HO1 : Hid (World.ownsRow w5 w4.heap.size 33 5 u8 acc.length (acc.flatMap encH)) := HO.out
          have rk : IntKind.i64.wrap ((k : Int) - 1) = (k : Int) - 1 := by rw [IntKind.wrap_i64]; omega
          have hsz5 := HB5.out.size
          clear hacc hx hj0 hz HO
          go_wp2_with (at_builtin; refine wpList_appN rfl (.tmp 37) (.tmp 42) 36 rfl w4.heap.size 33 5 80 _ info_hit rfl (by omega) Tryd.underlying36 rfl HO1.out rfl rfl (by simp [Value.oneCell']) (by omega) (by omega) hsz5 ?_; intro v6 w6 hown6 hb6)
          have HO6 : Hid (OwnR encH 5 33 w6 w4.heap.size v6 ((l.drop k).reverse)) := by
            show OwnR _ _ _ _ _ _ _
            rw [HNX.out]
            exact OwnR.snoc hown6
          have HB6 : Hid (Below w4.heap.size w4 w6) := HB5.out.trans hb6
          clear hown6 hb6 HO1 HNX p0 p1 p2 p3 p4
          go_wp2
          go_roundw
          case rel => exact ⟨k, _, by omega, by first | rfl | go_num, by omega, HO6, HB6⟩
          case measure => simp [intOf]
    · have HF := Lib.hid (few_no (c := c) (HHL.out _ HB1.out) hn hf)
      clear hf
      go_wp2_with fail
      refine HF.out.mono ?_
      rintro e w3 ⟨rfl, rfl⟩
      go_wp2_with fail
      refine (HAW.out _ HB1.out).mono ?_
      rintro e w5 ⟨rfl, hb5⟩
      have HB5 : Hid (Below w.heap.size w w5) := HB1.out.trans (hb5.mono HB1.out.size)
      clear hb5
      go_wp2
      go_ret
      exact ⟨rfl, HB5.out⟩
end Go.Proofs.YtdpllfgnppeneaaDoor
