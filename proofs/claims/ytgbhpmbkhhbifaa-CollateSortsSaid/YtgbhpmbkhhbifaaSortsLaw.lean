/-
  CollateSorts, walked: it returns true, and nothing that was there has changed.
-/
import Derived.Test.YtgbhpmbkhhbifaaRefSort
import Derived.Test.YtgbhpmbkhhbifaaShort
import Derived.Test.YtgbhpmbkhhbifaaCmpLaw
import Derived.Test.YtgbhpmbkhhbifaaSameS
namespace Go.Proofs.Ytgbhpmbkhhbifaa
open Go.RowKit Col Srt
set_option linter.unusedVariables false
set_option linter.unusedSimpArgs false
attribute [local go_sem ↓] Go.wp_at_zero Go.wp_at_succ

/-- What both sorts hand back: a stable sort of l, in a new row. -/
def Sorted (L : List (List ByteArray)) (l : List ByteArray) (n : Nat) (W : World) (e : Ending) (w' : World) : Prop :=
  ∃ A c ys, e = .returned (.slice A n c) ∧ Hid (StableOf (cmpB L) l ys) ∧ Hid (SR w' w'.heap.size A n ys) ∧ Hid (Below W.heap.size W w')
theorem sorted_of {L : List (List ByteArray)} {l : List ByteArray} {n : Nat} {W : World} {e : Ending} {w' : World} {b : Nat} {t : TypeId}
    (h : ∃ v ys, e = .returned v ∧ w'.ownsRow b t 1 v n (ys.map .string) ∧ StableOf (cmpB L) l ys ∧ Below W.heap.size W w') : Sorted L l n W e w' := by
  obtain ⟨v, ys, rfl, h1, h2, h3⟩ := h
  obtain ⟨A, c, rfl, _, _, hr⟩ := own_form h1
  exact ⟨A, c, ys, rfl, h2, hr, h3⟩

set_option maxHeartbeats 4000000 in
set_option maxRecDepth 100000 in
theorem sorts_law (SA UA LA : Option Addr) (sn sc un uc ln lc : Nat) (nm : ByteArray) (S : List (ByteArray × Int)) (U : List (ByteArray × List Int)) (L : List (List ByteArray)) (w : World) (hS : SegsR w w.heap.size SA sn S) (hU : UnitsR w w.heap.size UA un U) (hL : RowsR w w.heap.size LA ln L)
    (hnm : nm.size ≤ 9223372036854775807) (A : Option Addr) (n c : Nat) (l : List ByteArray) (hl : SR w w.heap.size A n l) (hn : n ≤ 9223372036854775807) :
    Calls Try.prog 5 #[.agg #[.slice SA sn sc, .string nm, .slice UA un uc, .slice LA ln lc], .slice A n c] w fun e w' => e = .returned (.bool true) ∧ Below w.heap.size w w' := by
  have hbe := below_new w (.cells #[.slice SA sn sc, .string nm, .slice UA un uc, .slice LA ln lc] 30)
  have hr := right_any SA UA LA sn sc un uc ln lc nm S U L (w.alloc (.cells #[.slice SA sn sc, .string nm, .slice UA un uc, .slice LA ln lc] 30)) ((hS.below hbe).more hbe.size) ((hU.below hbe).more hbe.size) (hL.on hbe) hnm
  obtain ⟨rb, hrb⟩ : ∃ rb, Hid (rightB S nm U L = rb) := ⟨_, rfl⟩
  rw [hrb.out] at hr
  have HR := Lib.hid hr; clear hr
  have HSR := Lib.hid hl; clear hl
  have HBE := Lib.hid hbe; clear hbe
  have HL := Lib.hid hL; clear hL hS hU
  cases rb with
  | false =>
    go_enter Try.func5, Try.ntmps5
    go_wp2_with fail
    refine HR.out.mono ?_
    rintro e w1 ⟨rfl, hb1⟩
    have HB1 : Hid (Below w.heap.size w w1) := HBE.out.trans (hb1.mono HBE.out.size)
    clear hb1
    go_wp2_with fail
    refine (awake_any _).mono ?_
    rintro e w2 ⟨rfl, hb2⟩
    go_wp2
    go_ret
    exact ⟨rfl, HB1.out.trans (hb2.mono HB1.out.size)⟩
  | true =>
    have hshort := fun W (hb : Below w.heap.size w W) => short_any A n c l W (SR.on HSR.out hb) hn
    obtain ⟨sb, hsb⟩ : ∃ sb, Hid (shortB l = sb) := ⟨_, rfl⟩
    rw [hsb.out] at hshort
    have HSH := Lib.hid hshort; clear hshort
    cases sb with
    | false =>
      go_enter Try.func5, Try.ntmps5
      go_wp2_with fail
      refine HR.out.mono ?_
      rintro e w1 ⟨rfl, hb1⟩
      have HB1 : Hid (Below w.heap.size w w1) := HBE.out.trans (hb1.mono HBE.out.size)
      clear hb1
      go_wp2_with fail
      refine (HSH.out _ HB1.out).mono ?_
      rintro e w2 ⟨rfl, rfl⟩
      go_wp2_with fail
      refine (awake_any _).mono ?_
      rintro e w2 ⟨rfl, hb2⟩
      go_wp2
      go_ret
      exact ⟨rfl, HB1.out.trans (hb2.mono HB1.out.size)⟩
    | true =>
      have HSZ := Lib.hid (right_sized hrb.out)
      have hshz := shortB_size hsb.out
      have hn30 : n ≤ 30 := by rw [← HSR.out.len]; exact hshz.1
      have HSS : Hid (∀ s, s ∈ l → s.size ≤ 1099511627776) := fun s hs => Nat.le_trans (hshz.2 s hs) (by omega)
      clear hshz
      go_enter Try.func5, Try.ntmps5
      go_wp2_with fail
      refine HR.out.mono ?_
      rintro e w1 ⟨rfl, hb1⟩
      have HB1 : Hid (Below w.heap.size w w1) := HBE.out.trans (hb1.mono HBE.out.size)
      have HX1 : Hid (BoxA w1 w.heap.size SA sn sc nm UA un uc LA ln lc) := (BoxA.new w SA sn sc nm UA un uc LA ln lc 30).on hb1 (by simp)
      have hsz1 : w.heap.size < w1.heap.size := by have := hb1.size; simp at this; omega
      clear hb1
      go_wp2_with fail
      refine (HSH.out _ HB1.out).mono ?_
      rintro e w2 ⟨rfl, rfl⟩
      have KA : Hid (∀ W, Below w1.heap.size w1 W → Calls Try.prog 22 #[.agg #[.string nm, .slice UA un uc, .slice LA ln lc], .slice A n c] W (Sorted L l n W)) := fun W hW =>
        (sort_any nm UA LA A un uc ln lc n c L l W W.heap.size (HL.out.on (HB1.out.trans (hW.mono HB1.out.size))) (Nat.le_refl _) HSZ.out (SR.on HSR.out (HB1.out.trans (hW.mono HB1.out.size))) (by omega) HSS.out).mono fun e w' h => sorted_of h
      have KB : Hid (∀ W, Below w1.heap.size w1 W → Calls Try.prog 23 #[.agg #[.string nm, .slice UA un uc, .slice LA ln lc], .slice A n c] W (Sorted L l n W)) := fun W hW =>
        (refSort_any nm UA LA A un uc ln lc n c L l W (HL.out.on (HB1.out.trans (hW.mono HB1.out.size))) HSZ.out (SR.on HSR.out (HB1.out.trans (hW.mono HB1.out.size))) (by omega) HSS.out).mono fun e w' h => sorted_of h
      have KX : Hid (∀ W, Below w1.heap.size w1 W → W.cell? ⟨w.heap.size, 1, none⟩ = some (.string nm) ∧ W.cell? ⟨w.heap.size, 2, none⟩ = some (.slice UA un uc) ∧ W.cell? ⟨w.heap.size, 3, none⟩ = some (.slice LA ln lc)) := fun W hW =>
        ⟨(HX1.out.on hW hsz1).name, (HX1.out.on hW hsz1).units, (HX1.out.on hW hsz1).letters⟩
      have hs0 := KX.out _ (Below.refl _ _)
      clear HX1
      go_wp2_with fail
      go_region_held3 (fun w' => w'.cell? ⟨w.heap.size, 1, none⟩ = some (.string nm) ∧ w'.cell? ⟨w.heap.size, 2, none⟩ = some (.slice UA un uc) ∧ w'.cell? ⟨w.heap.size, 3, none⟩ = some (.slice LA ln lc))
        (first | assumption | go_keep)
        ((first
          | (go_at_call 22; refine (KA.out _ (Below.refl _ w1).drew).mono ?_; rintro e w2 ⟨AA, cA, yA, rfl, HSTA, HRA, HBA⟩
             have HFA : Hid (Below w1.heap.size w1 w2) := (Below.refl _ w1).drew.trans HBA.out
             have hsxA := KX.out _ HFA.out
             clear KA)
          | (go_at_call 23; refine (KB.out _ (Below.refl _ w1).drew).mono ?_; rintro e w2 ⟨AB, cB, yB, rfl, HSTB, HRB, HBB⟩
             have HFB : Hid (Below w1.heap.size w1 w2) := (Below.refl _ w1).drew.trans HBB.out
             have hsxB := KX.out _ HFB.out
             clear KB)
          | (go_at_call 23; refine (KB.out _ HFA.out).mono ?_; rintro e w3 ⟨AB, cB, yB, rfl, HSTB, HRB, HBB⟩
             have HFB2 : Hid (Below w1.heap.size w1 w3) := HFA.out.trans (HBB.out.mono HFA.out.size)
             have HRA2 : Hid (SR w3 w3.heap.size AA n yA) := SR.on HRA.out HBB.out
             have hsxB := KX.out _ HFB2.out
             clear KB HFA HRA HBB)
          | (go_at_call 22; refine (KA.out _ HFB.out).mono ?_; rintro e w3 ⟨AA, cA, yA, rfl, HSTA, HRA, HBA⟩
             have HFA2 : Hid (Below w1.heap.size w1 w3) := HFB.out.trans (HBA.out.mono HFB.out.size)
             have HRB2 : Hid (SR w3 w3.heap.size AB n yB) := SR.on HRB.out HBA.out
             have hsxA := KX.out _ HFA2.out
             clear KA HFB HRB HBA)
          | (go_at_call 21; refine (same_strs AA AB n n cA cB yA yB w3 HRA2.out HRB.out (by omega) (by omega)).mono ?_; rintro e w4 ⟨he, q, rfl⟩
             rw [(decide_eq_true (StableOf.unique (cmpB_is L) HSTA.out HSTB.out) : decide (yA = yB) = true)] at he
             subst he
             have HF4 : Hid (Below w1.heap.size w1 (w3.drewN q)) := below_drewN HFB2.out q
             have hsx4 := KX.out _ HF4.out
             clear HFB2)
          | (go_at_call 21; refine (same_strs AA AB n n cA cB yA yB w3 HRA.out HRB2.out (by omega) (by omega)).mono ?_; rintro e w4 ⟨he, q, rfl⟩
             rw [(decide_eq_true (StableOf.unique (cmpB_is L) HSTA.out HSTB.out) : decide (yA = yB) = true)] at he
             subst he
             have HF4 : Hid (Below w1.heap.size w1 (w3.drewN q)) := below_drewN HFA2.out q
             have hsx4 := KX.out _ HF4.out
             clear HFA2)
          | (go_at_call 12; refine (awake_any _).mono ?_; rintro e w5 ⟨rfl, hb5⟩
             have HF5 : Hid (Below w1.heap.size w1 w5) := HF4.out.trans (hb5.mono HF4.out.size)
             have hsx5 := KX.out _ HF5.out
             clear hb5 HF4)))
      all_goals
        go_wp2
        go_ret
        exact ⟨rfl, HB1.out.trans (HF5.out.mono HB1.out.size)⟩
end Go.Proofs.Ytgbhpmbkhhbifaa
