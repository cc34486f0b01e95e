/-
  ConcordLess: the law, walked.
-/
import Derived.Test.YtdpllfgnppeneaaDoorLaw39A
import Derived.Test.YtdpllfgnppeneaaDoorRight39
import Derived.Test.YtdpllfgnppeneaaDoorRefLess
namespace Go.Proofs.YtdpllfgnppeneaaDoor
open Go.RowKit Ru Lay Srt Col
attribute [local go_sem ↓] Go.wp_at_zero Go.wp_at_succ
set_option linter.unusedVariables false
set_option linter.unusedSimpArgs false

theorem right_yes {SA UA LA : Option Addr} {sn sc un uc ln lc : Nat} {nm : ByteArray} {S : List (ByteArray × Int)} {U : List (ByteArray × List Int)} {L : List (List ByteArray)} {w : World} {r : Bool} (hS : SegsR w w.heap.size SA sn S) (hU : UnitsR w w.heap.size UA un U) (hL : RowsR w w.heap.size LA ln L)
    (hb : Bulk39 S nm U L) (h : right39 S nm U L = r) :
    Calls Tryd.prog 9 #[.agg #[.slice SA sn sc], .agg #[.string nm, .slice UA un uc, .slice LA ln lc]] w fun e w' => e = .returned (.bool r) ∧ Below w.heap.size w w' :=
  (right39_any SA UA LA sn sc un uc ln lc nm S U L w hS hU hL hb).mono fun e w' ⟨h1, h2⟩ => ⟨by rw [h1, h], h2⟩
theorem SegsR.more' {w : World} {B B' : Nat} {A : Option Addr} {n : Nat} {S : List (ByteArray × Int)} (h : SegsR w B A n S) (hB : B ≤ B') : SegsR w B' A n S :=
  ⟨h.1, fun hn => by obtain ⟨ad, e, hlt, hc⟩ := h.2 hn; exact ⟨ad, e, Nat.lt_of_lt_of_le hlt hB, hc⟩⟩
theorem UnitsR.more' {w : World} {B B' : Nat} {A : Option Addr} {n : Nat} {U : List (ByteArray × List Int)} (h : UnitsR w B A n U) (hB : B ≤ B') : UnitsR w B' A n U :=
  ⟨h.1, fun hn => by
    obtain ⟨ad, e, hlt, hc⟩ := h.2 hn
    refine ⟨ad, e, Nat.lt_of_lt_of_le hlt hB, fun k x hx => ?_⟩
    obtain ⟨h1, A', n', c', h2, h3⟩ := hc k x hx
    exact ⟨h1, A', n', c', h2, Reads.more h3 hB⟩⟩
set_option maxHeartbeats 8000000 in
set_option maxRecDepth 100000 in
theorem concordLess_any (SA UA LA : Option Addr) (sn sc un uc ln lc : Nat) (nm : ByteArray) (S : List (ByteArray × Int)) (U : List (ByteArray × List Int)) (L : List (List ByteArray)) (a b : Hv) (w : World) (hS : SegsR w w.heap.size SA sn S) (hU : UnitsR w w.heap.size UA un U) (hL : RowsR w w.heap.size LA ln L)
    (hB : Bulk39 S nm U L) (hz : SizedL L) (ha : HvR w w.heap.size a) (hb : HvR w w.heap.size b) (hT : Tabs w) :
    Calls Tryd.prog 3 #[.agg #[.slice SA sn sc], .agg #[.string nm, .slice UA un uc, .slice LA ln lc], .agg #[.int .i64 a.rid, .int .i64 a.nid, .slice a.la a.ln a.lc, .string a.key, .slice a.ra a.rn a.rc], .agg #[.int .i64 b.rid, .int .i64 b.nid, .slice b.la b.ln b.lc, .string b.key, .slice b.ra b.rn b.rc]] w fun e w' => e = .returned (.bool true) ∧ Below w.heap.size w w' := by
  have HAW := Lib.hid fun (W : World) (hW : Below w.heap.size w W) => awake39_any W (hT.on hW)
  have HRT := Lib.hid fun (W : World) (hW : Below w.heap.size w W) (r : Bool) (h : right39 S nm U L = r) => right_yes (sc := sc) (uc := uc) (lc := lc) ((hS.below hW).more' hW.size) ((hU.below hW).more' hW.size) (rows_more (hL.below hW) hW.size) hB h
  have HHA := Lib.hid fun (W : World) (hW : Below w.heap.size w W) => ha.on hW
  have HHB := Lib.hid fun (W : World) (hW : Below w.heap.size w W) => hb.on hW
  have HRL := Lib.hid fun (W : World) (hW : Below w.heap.size w W) => rows_more (hL.below hW) hW.size
  have HZ := Lib.hid hz
  obtain ⟨W4, hW4⟩ : ∃ W4, ((((w.alloc (.cells #[.slice SA sn sc] 24)).alloc (.cells #[.string nm, .slice UA un uc, .slice LA ln lc] 28)).alloc (.cells #[.int .i64 a.rid, .int .i64 a.nid, .slice a.la a.ln a.lc, .string a.key, .slice a.ra a.rn a.rc] 33)).alloc (.cells #[.int .i64 b.rid, .int .i64 b.nid, .slice b.la b.ln b.lc, .string b.key, .slice b.ra b.rn b.rc] 33)) = W4 := ⟨_, rfl⟩
  have HB4 : Hid (Below w.heap.size w W4) := by rw [← hW4]; exact ((((Below.refl _ w).alloc (Nat.le_refl _) _).alloc (by simp) _).alloc (by simp; omega) _).alloc (by simp; omega) _
  have hz4 : W4.heap.size = w.heap.size + 4 := by rw [← hW4]; simp
  have HC4 : Hid (∀ X, Below W4.heap.size W4 X → X.cell? ⟨w.heap.size, 0, none⟩ = some (.slice SA sn sc) ∧ X.cell? ⟨w.heap.size + 1, 0, none⟩ = some (.string nm) ∧ X.cell? ⟨w.heap.size + 1, 1, none⟩ = some (.slice UA un uc) ∧ X.cell? ⟨w.heap.size + 1, 2, none⟩ = some (.slice LA ln lc) ∧ X.cell? ⟨w.heap.size + 2, 0, none⟩ = some (.int .i64 a.rid) ∧ X.cell? ⟨w.heap.size + 2, 1, none⟩ = some (.int .i64 a.nid) ∧ X.cell? ⟨w.heap.size + 2, 2, none⟩ = some (.slice a.la a.ln a.lc) ∧ X.cell? ⟨w.heap.size + 2, 3, none⟩ = some (.string a.key) ∧ X.cell? ⟨w.heap.size + 2, 4, none⟩ = some (.slice a.ra a.rn a.rc) ∧ X.cell? ⟨w.heap.size + 3, 0, none⟩ = some (.int .i64 b.rid) ∧ X.cell? ⟨w.heap.size + 3, 1, none⟩ = some (.int .i64 b.nid) ∧ X.cell? ⟨w.heap.size + 3, 2, none⟩ = some (.slice b.la b.ln b.lc) ∧ X.cell? ⟨w.heap.size + 3, 3, none⟩ = some (.string b.key) ∧ X.cell? ⟨w.heap.size + 3, 4, none⟩ = some (.slice b.ra b.rn b.rc)) := fun X hX => by
    have h0 : ∀ (p : Addr), p.block < w.heap.size + 4 → X.cell? p = W4.cell? p := fun p hp => hX.cell (by rw [hz4]; exact hp)
    refine ⟨?_, ?_, ?_, ?_, ?_, ?_, ?_, ?_, ?_, ?_, ?_, ?_, ?_, ?_⟩
    · rw [h0 _ (by show w.heap.size < _; omega), ← hW4]; rw [World.cell?_alloc_lt _ _ _ (by simp <;> omega)]; rw [World.cell?_alloc_lt _ _ _ (by simp <;> omega)]; rw [World.cell?_alloc_lt _ _ _ (by simp <;> omega)]; rw [World.cell?_alloc_at _ _ _ _ (by simp <;> omega)]; rfl
    · rw [h0 _ (by show w.heap.size + 1 < _; omega), ← hW4]; rw [World.cell?_alloc_lt _ _ _ (by simp <;> omega)]; rw [World.cell?_alloc_lt _ _ _ (by simp <;> omega)]; rw [World.cell?_alloc_at _ _ _ _ (by simp <;> omega)]; rfl
    · rw [h0 _ (by show w.heap.size + 1 < _; omega), ← hW4]; rw [World.cell?_alloc_lt _ _ _ (by simp <;> omega)]; rw [World.cell?_alloc_lt _ _ _ (by simp <;> omega)]; rw [World.cell?_alloc_at _ _ _ _ (by simp <;> omega)]; rfl
    · rw [h0 _ (by show w.heap.size + 1 < _; omega), ← hW4]; rw [World.cell?_alloc_lt _ _ _ (by simp <;> omega)]; rw [World.cell?_alloc_lt _ _ _ (by simp <;> omega)]; rw [World.cell?_alloc_at _ _ _ _ (by simp <;> omega)]; rfl
    · rw [h0 _ (by show w.heap.size + 2 < _; omega), ← hW4]; rw [World.cell?_alloc_lt _ _ _ (by simp <;> omega)]; rw [World.cell?_alloc_at _ _ _ _ (by simp <;> omega)]; rfl
    · rw [h0 _ (by show w.heap.size + 2 < _; omega), ← hW4]; rw [World.cell?_alloc_lt _ _ _ (by simp <;> omega)]; rw [World.cell?_alloc_at _ _ _ _ (by simp <;> omega)]; rfl
    · rw [h0 _ (by show w.heap.size + 2 < _; omega), ← hW4]; rw [World.cell?_alloc_lt _ _ _ (by simp <;> omega)]; rw [World.cell?_alloc_at _ _ _ _ (by simp <;> omega)]; rfl
    · rw [h0 _ (by show w.heap.size + 2 < _; omega), ← hW4]; rw [World.cell?_alloc_lt _ _ _ (by simp <;> omega)]; rw [World.cell?_alloc_at _ _ _ _ (by simp <;> omega)]; rfl
    · rw [h0 _ (by show w.heap.size + 2 < _; omega), ← hW4]; rw [World.cell?_alloc_lt _ _ _ (by simp <;> omega)]; rw [World.cell?_alloc_at _ _ _ _ (by simp <;> omega)]; rfl
    · rw [h0 _ (by show w.heap.size + 3 < _; omega), ← hW4]; rw [World.cell?_alloc_at _ _ _ _ (by simp <;> omega)]; rfl
    · rw [h0 _ (by show w.heap.size + 3 < _; omega), ← hW4]; rw [World.cell?_alloc_at _ _ _ _ (by simp <;> omega)]; rfl
    · rw [h0 _ (by show w.heap.size + 3 < _; omega), ← hW4]; rw [World.cell?_alloc_at _ _ _ _ (by simp <;> omega)]; rfl
    · rw [h0 _ (by show w.heap.size + 3 < _; omega), ← hW4]; rw [World.cell?_alloc_at _ _ _ _ (by simp <;> omega)]; rfl
    · rw [h0 _ (by show w.heap.size + 3 < _; omega), ← hW4]; rw [World.cell?_alloc_at _ _ _ _ (by simp <;> omega)]; rfl
  clear hS hU hL ha hb hT hz
  go_enter Tryd.func3, Tryd.ntmps3
  go_upto_region 1 with fail
  (try rw [hW4])
  clear hW4
  obtain ⟨q0, q1, q2, q3, q4, q5, q6, q7, q8, q9, q10, q11, q12, q13⟩ := HC4.out W4 (Below.refl _ _)
  cases hr : right39 S nm U L with
  | false =>
    have HR1 := Lib.hid (HRT.out W4 HB4.out false hr)
    clear hr
    go_wp2_with fail
    refine HR1.out.mono ?_
    rintro e w1 ⟨rfl, hb1⟩
    have HB1 : Hid (Below w.heap.size w w1) := HB4.out.trans (hb1.mono HB4.out.size)
    clear hb1 q0 q1 q2 q3 q4 q5 q6 q7 q8 q9 q10 q11 q12 q13
    go_wp2_with fail
    refine (HAW.out _ HB1.out).mono ?_
    rintro e w5 ⟨rfl, hb5⟩
    have HB5 : Hid (Below w.heap.size w w5) := HB1.out.trans (hb5.mono HB1.out.size)
    clear hb5
    go_wp2
    go_ret
    exact ⟨rfl, HB5.out⟩
  | true =>
    have HR1 := Lib.hid (HRT.out W4 HB4.out true hr)
    clear hr
    go_wp2_with fail
    refine HR1.out.mono ?_
    rintro e w1 ⟨rfl, hb1⟩
    have HB41 : Hid (Below W4.heap.size W4 w1) := hb1
    have HB1 : Hid (Below w.heap.size w w1) := HB4.out.trans (hb1.mono HB4.out.size)
    have hz1 := hb1.size
    clear hb1 q0 q1 q2 q3 q4 q5 q6 q7 q8 q9 q10 q11 q12 q13
    obtain ⟨q0, q1, q2, q3, q4, q5, q6, q7, q8, q9, q10, q11, q12, q13⟩ := HC4.out w1 HB41.out
    have HH2 := Lib.hid (hits_two w1 a b (HHA.out _ HB1.out) (HHB.out _ HB1.out))
    obtain ⟨w2, hw2⟩ : ∃ w2, w1.alloc (.cells #[.int .i64 a.rid, .int .i64 a.nid, .slice a.la a.ln a.lc, .string a.key, .slice a.ra a.rn a.rc, .int .i64 b.rid, .int .i64 b.nid, .slice b.la b.ln b.lc, .string b.key, .slice b.ra b.rn b.rc] 33) = w2 := ⟨_, rfl⟩
    have HB12 : Hid (Below w1.heap.size w1 w2) := by rw [← hw2]; exact (Below.refl _ w1).alloc (Nat.le_refl _) _
    have HB42 : Hid (Below W4.heap.size W4 w2) := HB41.out.trans (HB12.out.mono HB41.out.size)
    have HB2 : Hid (Below w.heap.size w w2) := HB1.out.trans (HB12.out.mono HB1.out.size)
    rw [hw2] at HH2
    by_cases hf : FewL ([a, b].map Hv.toHt)
    · have HF := Lib.hid (few_yes (c := 2) HH2.out (by omega) hf)
      have za : HvZ a.toHt := (hf.2 _ (by simp)).sz
      have zb : HvZ b.toHt := (hf.2 _ (by simp)).sz
      have HL1 := Lib.hid fun (W : World) (hW : Below w.heap.size w W) => less_any nm UA LA un uc ln lc L a b W (HRL.out W hW) HZ.out (HHA.out W hW) (HHB.out W hW) za zb
      have HL2 := Lib.hid fun (W : World) (hW : Below w.heap.size w W) => less_any nm UA LA un uc ln lc L b a W (HRL.out W hW) HZ.out (HHB.out W hW) (HHA.out W hW) zb za
      have HM1 := Lib.hid fun (W : World) (hW : Below w.heap.size w W) => refLess_any nm UA LA un uc ln lc L a b W (HRL.out W hW) HZ.out (HHA.out W hW) (HHB.out W hW) za zb
      have HM2 := Lib.hid fun (W : World) (hW : Below w.heap.size w W) => refLess_any nm UA LA un uc ln lc L b a W (HRL.out W hW) HZ.out (HHB.out W hW) (HHA.out W hW) zb za
      obtain ⟨x1, hx1⟩ : ∃ x1, decide (cmpH L a.toHt b.toHt < 0) = x1 := ⟨_, rfl⟩
      obtain ⟨x2, hx2⟩ : ∃ x2, decide (cmpH L b.toHt a.toHt < 0) = x2 := ⟨_, rfl⟩
      rw [hx1] at HL1 HM1
      rw [hx2] at HL2 HM2
      clear hx1 hx2 hf za zb
      go_wp2_with fail
      (try rw [hw2])
      clear hw2
      refine HF.out.mono ?_
      rintro e w3 ⟨rfl, rfl⟩
      clear q0 q1 q2 q3 q4 q5 q6 q7 q8 q9 q10 q11 q12 q13
      have HCW := Lib.hid fun (r : BW w3) => HC4.out r.at_ (HB42.out.trans (r.bel.mono HB42.out.size))
      have f0 : ∀ r : BW w3, r.at_.cell? ⟨w.heap.size, 0, none⟩ = some (.slice SA sn sc) := fun r => by obtain ⟨q0, q1, q2, q3, q4, q5, q6, q7, q8, q9, q10, q11, q12, q13⟩ := HCW.out r; exact q0
      have f1 : ∀ r : BW w3, r.at_.cell? ⟨w.heap.size + 1, 0, none⟩ = some (.string nm) := fun r => by obtain ⟨q0, q1, q2, q3, q4, q5, q6, q7, q8, q9, q10, q11, q12, q13⟩ := HCW.out r; exact q1
      have f2 : ∀ r : BW w3, r.at_.cell? ⟨w.heap.size + 1, 1, none⟩ = some (.slice UA un uc) := fun r => by obtain ⟨q0, q1, q2, q3, q4, q5, q6, q7, q8, q9, q10, q11, q12, q13⟩ := HCW.out r; exact q2
      have f3 : ∀ r : BW w3, r.at_.cell? ⟨w.heap.size + 1, 2, none⟩ = some (.slice LA ln lc) := fun r => by obtain ⟨q0, q1, q2, q3, q4, q5, q6, q7, q8, q9, q10, q11, q12, q13⟩ := HCW.out r; exact q3
      have f4 : ∀ r : BW w3, r.at_.cell? ⟨w.heap.size + 2, 0, none⟩ = some (.int .i64 a.rid) := fun r => by obtain ⟨q0, q1, q2, q3, q4, q5, q6, q7, q8, q9, q10, q11, q12, q13⟩ := HCW.out r; exact q4
      have f5 : ∀ r : BW w3, r.at_.cell? ⟨w.heap.size + 2, 1, none⟩ = some (.int .i64 a.nid) := fun r => by obtain ⟨q0, q1, q2, q3, q4, q5, q6, q7, q8, q9, q10, q11, q12, q13⟩ := HCW.out r; exact q5
      have f6 : ∀ r : BW w3, r.at_.cell? ⟨w.heap.size + 2, 2, none⟩ = some (.slice a.la a.ln a.lc) := fun r => by obtain ⟨q0, q1, q2, q3, q4, q5, q6, q7, q8, q9, q10, q11, q12, q13⟩ := HCW.out r; exact q6
      have f7 : ∀ r : BW w3, r.at_.cell? ⟨w.heap.size + 2, 3, none⟩ = some (.string a.key) := fun r => by obtain ⟨q0, q1, q2, q3, q4, q5, q6, q7, q8, q9, q10, q11, q12, q13⟩ := HCW.out r; exact q7
      have f8 : ∀ r : BW w3, r.at_.cell? ⟨w.heap.size + 2, 4, none⟩ = some (.slice a.ra a.rn a.rc) := fun r => by obtain ⟨q0, q1, q2, q3, q4, q5, q6, q7, q8, q9, q10, q11, q12, q13⟩ := HCW.out r; exact q8
      have f9 : ∀ r : BW w3, r.at_.cell? ⟨w.heap.size + 3, 0, none⟩ = some (.int .i64 b.rid) := fun r => by obtain ⟨q0, q1, q2, q3, q4, q5, q6, q7, q8, q9, q10, q11, q12, q13⟩ := HCW.out r; exact q9
      have f10 : ∀ r : BW w3, r.at_.cell? ⟨w.heap.size + 3, 1, none⟩ = some (.int .i64 b.nid) := fun r => by obtain ⟨q0, q1, q2, q3, q4, q5, q6, q7, q8, q9, q10, q11, q12, q13⟩ := HCW.out r; exact q10
      have f11 : ∀ r : BW w3, r.at_.cell? ⟨w.heap.size + 3, 2, none⟩ = some (.slice b.la b.ln b.lc) := fun r => by obtain ⟨q0, q1, q2, q3, q4, q5, q6, q7, q8, q9, q10, q11, q12, q13⟩ := HCW.out r; exact q11
      have f12 : ∀ r : BW w3, r.at_.cell? ⟨w.heap.size + 3, 3, none⟩ = some (.string b.key) := fun r => by obtain ⟨q0, q1, q2, q3, q4, q5, q6, q7, q8, q9, q10, q11, q12, q13⟩ := HCW.out r; exact q12
      have f13 : ∀ r : BW w3, r.at_.cell? ⟨w.heap.size + 3, 4, none⟩ = some (.slice b.ra b.rn b.rc) := fun r => by obtain ⟨q0, q1, q2, q3, q4, q5, q6, q7, q8, q9, q10, q11, q12, q13⟩ := HCW.out r; exact q13
      have HL1' := Lib.hid fun (r : BW w3) => HL1.out r.at_ (HB2.out.trans (r.bel.mono HB2.out.size))
      have HL2' := Lib.hid fun (r : BW w3) => HL2.out r.at_ (HB2.out.trans (r.bel.mono HB2.out.size))
      have HM1' := Lib.hid fun (r : BW w3) => HM1.out r.at_ (HB2.out.trans (r.bel.mono HB2.out.size))
      have HM2' := Lib.hid fun (r : BW w3) => HM2.out r.at_ (HB2.out.trans (r.bel.mono HB2.out.size))
      have HAW' := Lib.hid fun (r : BW w3) => HAW.out r.at_ (HB2.out.trans (r.bel.mono HB2.out.size))
      have hxx1 : (x1 == x1) = true := beq_self_eq_true _
      have hxx2 : (x2 == x2) = true := beq_self_eq_true _
      clear HL1 HL2 HM1 HM2 HF HR1 HCW
      go_wp2_with fail
      refine wp_region_quiet_below (by kernel_rfl) (by kernel_rfl) ?_
      repeat (go_big_quiet_step (first
        | (go_at_call 12; with_reducible exact below_quiet (HL1'.out _))
        | (go_at_call 12; with_reducible exact below_quiet (HL2'.out _))
        | (go_at_call 13; with_reducible exact below_quiet (HM1'.out _))
        | (go_at_call 13; with_reducible exact below_quiet (HM2'.out _))
        | (go_at_call 11; with_reducible exact below_quiet (HAW'.out _))))
      refine wpQuiet_nil ?_
      intro w6 hw'
      have hb6 := bw_below hw'
      have HB6 : Hid (Below w.heap.size w w6) := HB2.out.trans (hb6.mono HB2.out.size)
      clear hw' hb6 f0 f1 f2 f3 f4 f5 f6 f7 f8 f9 f10 f11 f12 f13
      go_wp2
      go_ret
      exact ⟨rfl, HB6.out⟩
    · have HF := Lib.hid (few_no (c := 2) HH2.out (by omega) hf)
      clear hf
      go_wp2_with fail
      (try rw [hw2])
      clear hw2
      refine HF.out.mono ?_
      rintro e w3 ⟨rfl, rfl⟩
      clear q0 q1 q2 q3 q4 q5 q6 q7 q8 q9 q10 q11 q12 q13
      go_wp2_with fail
      refine (HAW.out _ HB2.out).mono ?_
      rintro e w5 ⟨rfl, hb5⟩
      have HB5 : Hid (Below w.heap.size w w5) := HB2.out.trans (hb5.mono HB2.out.size)
      clear hb5
      go_wp2
      go_ret
      exact ⟨rfl, HB5.out⟩
end Go.Proofs.YtdpllfgnppeneaaDoor
