/-
  The laws' 'right': an inventory and an orthography that are accepted.
-/
import Derived.Test.YtdpllfgnppeneaaDoorCheck17
namespace Go.Proofs.YtdpllfgnppeneaaDoor
open Go.RowKit
set_option linter.unusedVariables false
set_option linter.unusedSimpArgs false

def right39 (S : List (ByteArray × Int)) (nm : ByteArray) (U : List (ByteArray × List Int)) (L : List (List ByteArray)) : Bool :=
  (decide (S.length ≤ 70) && (decide (U.length ≤ 40) && decide (L.length ≤ 40))) && (ok16 S && ok17 S.length nm U L)
/-- What the bound on the arguments gives. -/
structure Bulk39 (S : List (ByteArray × Int)) (nm : ByteArray) (U : List (ByteArray × List Int)) (L : List (List ByteArray)) : Prop where
  nm : nm.size ≤ 1048576
  seg : ∀ i, i < S.length → (segName S i).size ≤ 1048576
  gr : ∀ i, i < U.length → (graph U i).size ≤ 1048576
  us : ∀ i, i < U.length → (usegs U i).length ≤ 1048576
  row : ∀ i, i < L.length → (L.getD i []).length ≤ 1048576
  va : ∀ i k, i < L.length → k < (L.getD i []).length → (vari L i k).size ≤ 1048576
set_option maxHeartbeats 4000000 in
set_option maxRecDepth 100000 in
theorem right39_any (SA UA LA : Option Addr) (sn sc un uc ln lc : Nat) (nm : ByteArray) (S : List (ByteArray × Int)) (U : List (ByteArray × List Int)) (L : List (List ByteArray)) (w : World) (hS : SegsR w w.heap.size SA sn S) (hU : UnitsR w w.heap.size UA un U) (hL : RowsR w w.heap.size LA ln L)
    (hb : Bulk39 S nm U L) :
    Calls Tryd.prog 9 #[.agg #[.slice SA sn sc], .agg #[.string nm, .slice UA un uc, .slice LA ln lc]] w fun e w' => e = .returned (.bool (right39 S nm U L)) ∧ Below w.heap.size w w' := by
  have HLS := Lib.hid hS.1
  have HLU := Lib.hid hU.1
  have HLL := Lib.hid hL.len
  have HBK := Lib.hid hb
  have HC16 := Lib.hid fun (W : World) (hW : Below w.heap.size w W) => check16_any SA sn sc S W w.heap.size (hS.below hW) hW.size (fun i hi => by have := hb.seg i (by rw [HLS.out]; exact hi); omega)
  have HC17 := Lib.hid fun (W : World) (hW : Below w.heap.size w W) (h1 : sn ≤ 70) (h2 : un ≤ 40) (h3 : ln ≤ 40) => check17_any SA UA LA sn sc un uc ln lc nm U L W w.heap.size (hU.below hW) (hL.below hW) hW.size (by omega) (by have := hb.nm; omega) (by omega)
    (fun i hi => by have := hb.gr i (by rw [HLU.out]; exact hi); omega) (fun i hi => by have := hb.us i (by rw [HLU.out]; exact hi); omega) (by omega) (fun i hi => hb.row i (by rw [HLL.out]; exact hi)) (fun i k hi hk => by have := hb.va i k (by rw [HLL.out]; exact hi) hk; omega)
  have HBE : Hid (Below w.heap.size w ((w.alloc (.cells #[.slice SA sn sc] 24)).alloc (.cells #[.string nm, .slice UA un uc, .slice LA ln lc] 28))) := ((Below.refl _ w).alloc (Nat.le_refl _) _).alloc (by simp) _
  clear hS hU hL hb
  have HD : Hid (right39 S nm U L = ((decide (sn ≤ 70) && (decide (un ≤ 40) && decide (ln ≤ 40))) && (ok16 S && ok17 sn nm U L))) := by
    show _ = _
    unfold right39
    rw [HLS.out, HLU.out, HLL.out]
  by_cases g1 : sn ≤ 70
  · have g1z : (sn : Int) ≤ (70 : Int) := by omega
    by_cases g2 : un ≤ 40
    · have g2z : (un : Int) ≤ (40 : Int) := by omega
      by_cases g3 : ln ≤ 40
      · have g3z : (ln : Int) ≤ (40 : Int) := by omega
        have HD2 : Hid (right39 S nm U L = (ok16 S && ok17 sn nm U L)) := by
          show _ = _
          rw [HD.out, decide_eq_true g1, decide_eq_true g2, decide_eq_true g3]
          rfl
        have HC := Lib.hid fun W hW => HC17.out W hW g1 g2 g3
        clear HC17
        go_enter Tryd.func9, Tryd.ntmps9
        go_wp2_with fail
        obtain ⟨W2, hW2⟩ : ∃ W2, (w.alloc (.cells #[.slice SA sn sc] 24)).alloc (.cells #[.string nm, .slice UA un uc, .slice LA ln lc] 28) = W2 := ⟨_, rfl⟩
        have hz2 : W2.heap.size = w.heap.size + 1 + 1 := by rw [← hW2]; simp
        have k0 : W2.cell? ⟨w.heap.size, 0, none⟩ = some (.slice SA sn sc) := by
          rw [← hW2, World.cell?_alloc_lt _ _ _ (by simp), World.cell?_alloc_at _ _ _ _ rfl]; rfl
        have k1 : W2.cell? ⟨w.heap.size + 1, 0, none⟩ = some (.string nm) := by rw [← hW2, World.cell?_alloc_at _ _ _ _ (by simp)]; rfl
        have k2 : W2.cell? ⟨w.heap.size + 1, 1, none⟩ = some (.slice UA un uc) := by rw [← hW2, World.cell?_alloc_at _ _ _ _ (by simp)]; rfl
        have k3 : W2.cell? ⟨w.heap.size + 1, 2, none⟩ = some (.slice LA ln lc) := by rw [← hW2, World.cell?_alloc_at _ _ _ _ (by simp)]; rfl
        rw [hW2] at HBE ⊢
        clear hW2
        refine (HC16.out _ HBE.out).mono ?_
        rintro e w1 ⟨r, rfl, hr, hb1⟩
        have HR := Lib.hid hr; clear hr
        have HB1 : Hid (Below w.heap.size w w1) := HBE.out.trans (hb1.mono HBE.out.size)
        have q0 : w1.cell? ⟨w.heap.size, 0, none⟩ = some (.slice SA sn sc) := (hb1.cell (p := ⟨w.heap.size, 0, none⟩) (by show w.heap.size < _; omega)).trans k0
        have q1 : w1.cell? ⟨w.heap.size + 1, 0, none⟩ = some (.string nm) := (hb1.cell (p := ⟨w.heap.size + 1, 0, none⟩) (by show w.heap.size + 1 < _; omega)).trans k1
        have q2 : w1.cell? ⟨w.heap.size + 1, 1, none⟩ = some (.slice UA un uc) := (hb1.cell (p := ⟨w.heap.size + 1, 1, none⟩) (by show w.heap.size + 1 < _; omega)).trans k2
        have q3 : w1.cell? ⟨w.heap.size + 1, 2, none⟩ = some (.slice LA ln lc) := (hb1.cell (p := ⟨w.heap.size + 1, 2, none⟩) (by show w.heap.size + 1 < _; omega)).trans k3
        clear hb1 HC16 k0 k1 k2 k3
        by_cases hr0 : r = 0
        · subst hr0
          have h16 := Lib.hid (HR.out.1 rfl)
          go_wp2_with fail
          refine (HC.out _ HB1.out).mono ?_
          rintro e w2 ⟨r2, rfl, hr2, hb2⟩
          have HR2 := Lib.hid hr2; clear hr2
          have HB2 : Hid (Below w.heap.size w w2) := HB1.out.trans (hb2.mono HB1.out.size)
          clear hb2
          by_cases hr20 : r2 = 0
          · subst hr20
            have h17 := Lib.hid (HR2.out.1 rfl)
            go_wp2
            go_ret
            exact ⟨ret_bool (by rw [HD2.out, h16.out, h17.out]; rfl), HB2.out⟩
          · have hne : (r2 == 0) = false := beq_eq_false_iff_ne.2 hr20
            have h17 : Hid (ok17 sn nm U L = false) := by
              cases hh : ok17 sn nm U L with
              | false => rfl
              | true => exact absurd (HR2.out.2 hh) hr20
            go_wp2
            go_ret
            exact ⟨ret_bool (by rw [HD2.out, h16.out, h17.out]; rfl), HB2.out⟩
        · have hne : (r == 0) = false := beq_eq_false_iff_ne.2 hr0
          have h16 : Hid (ok16 S = false) := by
            cases hh : ok16 S with
            | false => rfl
            | true => exact absurd (HR.out.2 hh) hr0
          go_wp2
          go_ret
          exact ⟨ret_bool (by rw [HD2.out, h16.out]; rfl), HB1.out⟩
      · have g3z : ¬ (ln : Int) ≤ (40 : Int) := by omega
        have HRES : Hid (right39 S nm U L = false) := by show _ = _; rw [HD.out, decide_eq_false g3]; simp
        go_enter Tryd.func9, Tryd.ntmps9
        go_wp2
        go_ret
        exact ⟨ret_bool HRES.out.symm, HBE.out⟩
    · have g2z : ¬ (un : Int) ≤ (40 : Int) := by omega
      have HRES : Hid (right39 S nm U L = false) := by show _ = _; rw [HD.out, decide_eq_false g2]; simp
      go_enter Tryd.func9, Tryd.ntmps9
      go_wp2
      go_ret
      exact ⟨ret_bool HRES.out.symm, HBE.out⟩
  · have g1z : ¬ (sn : Int) ≤ (70 : Int) := by omega
    have HRES : Hid (right39 S nm U L = false) := by show _ = _; rw [HD.out, decide_eq_false g1]; simp
    go_enter Tryd.func9, Tryd.ntmps9
    go_wp2
    go_ret
    exact ⟨ret_bool HRES.out.symm, HBE.out⟩
end Go.Proofs.YtdpllfgnppeneaaDoor
