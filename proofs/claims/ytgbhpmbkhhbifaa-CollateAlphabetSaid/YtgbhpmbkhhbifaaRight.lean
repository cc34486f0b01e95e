import Derived.Test.YtgbhpmbkhhbifaaCheck17
namespace Go.Proofs.Ytgbhpmbkhhbifaa
open Go.RowKit
set_option linter.unusedVariables false
set_option linter.unusedSimpArgs false

theorem RowsR.up {w : World} {B B' : Nat} {A : Option Addr} {n : Nat} {L : List (List ByteArray)} (h : RowsR w B A n L) (hB : B ≤ B') : RowsR w B' A n L := by
  obtain ⟨xs, hr, hl, hi⟩ := h
  refine ⟨xs, hr.more hB, hl, fun i l hil => ?_⟩
  obtain ⟨A', n', c', hx', hs⟩ := hi i l hil
  exact ⟨A', n', c', hx', Reads.more hs hB⟩
/-- The sizes that 'right' looks at first. -/
def smallB (S : List (ByteArray × Int)) (nm : ByteArray) (U : List (ByteArray × List Int)) (L : List (List ByteArray)) : Bool :=
  (decide (S.length ≤ 60) && (decide (U.length ≤ 110) && (decide (L.length ≤ 110) && decide (nm.size ≤ 100)))) && (Ok.allTo (fun i => decide ((segName S i).size ≤ 100)) S.length &&
    (Ok.allTo (fun i => decide ((graph U i).size ≤ 100) && decide ((usegs U i).length ≤ 10)) U.length && Ok.allTo (fun i => decide ((L.getD i []).length ≤ 20) && Ok.allTo (fun k => decide ((vari L i k).size ≤ 100)) (L.getD i []).length) L.length))
def rightB (S : List (ByteArray × Int)) (nm : ByteArray) (U : List (ByteArray × List Int)) (L : List (List ByteArray)) : Bool := smallB S nm U L && (ok16 S && ok17 S.length nm U L)

set_option maxHeartbeats 8000000 in
set_option maxRecDepth 100000 in
theorem right_any (SA UA LA : Option Addr) (sn sc un uc ln lc : Nat) (nm : ByteArray) (S : List (ByteArray × Int)) (U : List (ByteArray × List Int)) (L : List (List ByteArray)) (w : World) (hS : SegsR w w.heap.size SA sn S) (hU : UnitsR w w.heap.size UA un U) (hL : RowsR w w.heap.size LA ln L)
    (hnm : nm.size ≤ 9223372036854775807) :
    Calls Try.prog 11 #[.agg #[.slice SA sn sc, .string nm, .slice UA un uc, .slice LA ln lc]] w fun e w' => e = .returned (.bool (rightB S nm U L)) ∧ Below w.heap.size w w' := by
  have HLS := Lib.hid hS.1
  have HLU := Lib.hid hU.1
  have HLL := Lib.hid hL.len
  have hbe := below_new w (.cells #[.slice SA sn sc, .string nm, .slice UA un uc, .slice LA ln lc] 30)
  have HBE := Lib.hid hbe
  have HS := Lib.hid ((hS.below hbe).more hbe.size)
  have HU := Lib.hid ((hU.below hbe).more hbe.size)
  have HL := Lib.hid (RowsR.up (hL.below hbe) hbe.size)
  clear hbe hS hU hL
  have HB0 : Hid (smallB S nm U L = ((decide (sn ≤ 60) && (decide (un ≤ 110) && (decide (ln ≤ 110) && decide (nm.size ≤ 100)))) && (Ok.allTo (fun i => decide ((segName S i).size ≤ 100)) sn &&
    (Ok.allTo (fun i => decide ((graph U i).size ≤ 100) && decide ((usegs U i).length ≤ 10)) un && Ok.allTo (fun i => decide ((L.getD i []).length ≤ 20) && Ok.allTo (fun k => decide ((vari L i k).size ≤ 100)) (L.getD i []).length) ln)))) := by
    show _ = _
    unfold smallB
    rw [HLS.out, HLU.out, HLL.out]
  have HNO : Hid (smallB S nm U L = false → rightB S nm U L = false) := fun h => by unfold rightB; rw [h]; rfl
  by_cases g1 : sn ≤ 60
  · have g1z : decide ((60 : Int) < (sn : Int)) = false := decide_eq_false (by omega)
    by_cases g2 : un ≤ 110
    · have g2z : decide ((110 : Int) < (un : Int)) = false := decide_eq_false (by omega)
      by_cases g3 : ln ≤ 110
      · have g3z : decide ((110 : Int) < (ln : Int)) = false := decide_eq_false (by omega)
        by_cases g4 : nm.size ≤ 100
        · have g4z : decide ((100 : Int) < (nm.size : Int)) = false := decide_eq_false (by omega)
          have HB1 : Hid (smallB S nm U L = (Ok.allTo (fun i => decide ((segName S i).size ≤ 100)) sn &&
    (Ok.allTo (fun i => decide ((graph U i).size ≤ 100) && decide ((usegs U i).length ≤ 10)) un && Ok.allTo (fun i => decide ((L.getD i []).length ≤ 20) && Ok.allTo (fun k => decide ((vari L i k).size ≤ 100)) (L.getD i []).length) ln))) := by
            show _ = _
            rw [HB0.out, decide_eq_true g1, decide_eq_true g2, decide_eq_true g3, decide_eq_true g4]
            simp
          clear HB0
          go_enter Try.func11, Try.ntmps11
          go_wp2_with fail
          go_loop [3, 37] (fun _ v => ∃ k : Nat, k ≤ sn ∧ v = .int .i64 k ∧ Hid (Ok.allTo (fun i => decide ((segName S i).size ≤ 100)) k = true)) (fun _ v => sn - (intOf v).toNat)
          case atStart => exact ⟨0, Nat.zero_le _, rfl, rfl⟩
          case round =>
            obtain ⟨k, hk, rfl, HA1⟩ := hrel
            by_cases hlt : k < sn
            · obtain ⟨ad, rfl, hab, hc0, hc1, hc2⟩ := HS.out.at_ hlt
              have hkz : (k : Int) < (sn : Int) := by omega
              by_cases h1 : (segName S k).size ≤ 100
              · have HN := Lib.hid (Ok.allTo_next HA1.out (by simp [h1] : decide ((segName S k).size ≤ 100) = true))
                go_wp2
                go_round
                case rel => exact ⟨k + 1, by omega, by go_num, HN⟩
                case measure => simp [intOf]; omega
              · have HRES := Lib.hid (HNO.out (by rw [HB1.out, Ok.allTo_false hlt (by simp [h1])]; simp))
                have h1z : (100 : Int) < ((segName S k).size : Int) := by omega
                go_wp2
                go_ret
                exact ⟨ret_bool HRES.out.symm, HBE.out⟩
            · obtain rfl : sn = k := by omega
              go_wp2_with fail
              go_loop [4, 54] (fun _ v => ∃ k : Nat, k ≤ un ∧ v = .int .i64 k ∧ Hid (Ok.allTo (fun i => decide ((graph U i).size ≤ 100) && decide ((usegs U i).length ≤ 10)) k = true)) (fun _ v => un - (intOf v).toNat)
              case atStart => exact ⟨0, Nat.zero_le _, rfl, rfl⟩
              case round =>
                obtain ⟨k, hk, rfl, HA2⟩ := hrel
                by_cases hlt : k < un
                · obtain ⟨ad, A', n', c', rfl, hab, hc0, hc1, hc2, hc3, hrd⟩ := HU.out.at_ hlt
                  have hn' : Hid (n' = (usegs U k).length) := by have := hrd.1; show _ = _; simpa using this.symm
                  clear hrd
                  have hkz : (k : Int) < (un : Int) := by omega
                  by_cases h1 : (graph U k).size ≤ 100
                  · by_cases h2 : n' ≤ 10
                    · have HN := Lib.hid (Ok.allTo_next HA2.out (by rw [← hn'.out]; simp [h1, h2] : (decide ((graph U k).size ≤ 100) && decide ((usegs U k).length ≤ 10)) = true))
                      go_wp2
                      go_round
                      case rel => exact ⟨k + 1, by omega, by go_num, HN⟩
                      case measure => simp [intOf]; omega
                    · have HRES := Lib.hid (HNO.out (by rw [HB1.out, Ok.allTo_false (f := fun i => decide ((graph U i).size ≤ 100) && decide ((usegs U i).length ≤ 10)) hlt (by simp only [← hn'.out]; simp [h2])]; simp))
                      have h2z : (10 : Int) < (n' : Int) := by omega
                      go_wp2
                      go_ret
                      exact ⟨ret_bool HRES.out.symm, HBE.out⟩
                  · have HRES := Lib.hid (HNO.out (by rw [HB1.out, Ok.allTo_false (f := fun i => decide ((graph U i).size ≤ 100) && decide ((usegs U i).length ≤ 10)) hlt (by simp [h1])]; simp))
                    have h1z : (100 : Int) < ((graph U k).size : Int) := by omega
                    go_wp2
                    go_ret
                    exact ⟨ret_bool HRES.out.symm, HBE.out⟩
                · obtain rfl : un = k := by omega
                  go_wp2_with fail
                  go_loop [5, 6, 82, 100] (fun _ _ v _ => ∃ k : Nat, k ≤ ln ∧ v = .int .i64 k ∧ Hid (Ok.allTo (fun i => decide ((L.getD i []).length ≤ 20) && Ok.allTo (fun k => decide ((vari L i k).size ≤ 100)) (L.getD i []).length) k = true)) (fun _ _ v _ => ln - (intOf v).toNat)
                  case atStart => exact ⟨0, Nat.zero_le _, rfl, rfl⟩
                  case round =>
                    obtain ⟨k, hk, rfl, HA3⟩ := hrel
                    by_cases hlt : k < ln
                    · obtain ⟨ad, A', c', rfl, hab, hc, hSR⟩ := rows_at' HL.out hlt
                      obtain ⟨m, hm⟩ : ∃ m, Hid ((L.getD k []).length = m) := ⟨_, rfl⟩
                      rw [hm.out] at hc hSR
                      have hkz : (k : Int) < (ln : Int) := by omega
                      have HNO3 : Hid ((decide (m ≤ 20) && Ok.allTo (fun q => decide ((vari L k q).size ≤ 100)) m) = false → rightB S nm U L = false) := fun h => HNO.out (by
                        rw [HB1.out, Ok.allTo_false (f := fun i => decide ((L.getD i []).length ≤ 20) && Ok.allTo (fun k => decide ((vari L i k).size ≤ 100)) (L.getD i []).length) hlt (by simp only [hm.out]; exact h)]; simp)
                      by_cases h1 : m ≤ 20
                      · go_wp2_with fail
                        go_loop [6, 100] (fun _ v => ∃ q : Nat, q ≤ m ∧ v = .int .i64 q ∧ Hid (Ok.allTo (fun q => decide ((vari L k q).size ≤ 100)) q = true)) (fun _ v => m - (intOf v).toNat)
                        case atStart => exact ⟨0, Nat.zero_le _, rfl, rfl⟩
                        case round =>
                          obtain ⟨q, hq, rfl, HA4⟩ := hrel
                          by_cases hqm : q < m
                          · obtain ⟨bd, s, rfl, hbb, hx, hcx⟩ := hSR.at_ hqm
                            have hvx : vari L k q = s := by unfold vari; rw [List.getD, hx]; rfl
                            have HVX := Lib.hid hvx; clear hvx hx
                            have hqz : (q : Int) < (m : Int) := by omega
                            by_cases h2 : s.size ≤ 100
                            · have HN := Lib.hid (Ok.allTo_next HA4.out (by rw [HVX.out]; simp [h2] : decide ((vari L k q).size ≤ 100) = true))
                              go_wp2
                              go_round
                              case rel => exact ⟨q + 1, by omega, by go_num, HN⟩
                              case measure => simp [intOf]; omega
                            · have HRES := Lib.hid (HNO3.out (by rw [Ok.allTo_false hqm (by simp only [HVX.out]; simp [h2])]; simp))
                              have h2z : (100 : Int) < (s.size : Int) := by omega
                              go_wp2
                              go_ret
                              exact ⟨ret_bool HRES.out.symm, HBE.out⟩
                          · obtain rfl : m = q := by omega
                            have HN := Lib.hid (Ok.allTo_next HA3.out (by simp only [hm.out]; rw [HA4.out]; simp [h1] : (decide ((L.getD k []).length ≤ 20) && Ok.allTo (fun q => decide ((vari L k q).size ≤ 100)) (L.getD k []).length) = true))
                            go_wp2
                            go_round
                            case rel => exact ⟨k + 1, by omega, by go_num, HN⟩
                            case measure => simp [intOf]; omega
                      · have HRES := Lib.hid (HNO3.out (by simp [h1]))
                        have h1z : (20 : Int) < (m : Int) := by omega
                        go_wp2
                        go_ret
                        exact ⟨ret_bool HRES.out.symm, HBE.out⟩
                    · obtain rfl : ln = k := by omega
                      have HRR : Hid (rightB S nm U L = (ok16 S && ok17 sn nm U L)) := by
                        show _ = _
                        unfold rightB
                        rw [HB1.out, HA1.out, HA2.out, HA3.out, HLS.out]
                        rfl
                      have A1 := Ok.allTo_iff.1 HA1.out
                      have A2 := Ok.allTo_iff.1 HA2.out
                      have A3 := Ok.allTo_iff.1 HA3.out
                      have HC16 := Lib.hid (check16_any SA sn sc S _ _ HS.out (Nat.le_refl _) (fun i hi => by have := of_decide_eq_true (A1 i hi); omega))
                      have F2 : Hid (∀ i, i < un → (graph U i).size ≤ 1099511627776 ∧ (usegs U i).length ≤ 140737488355328) := fun i hi => by
                        have := A2 i hi
                        rw [Bool.and_eq_true] at this
                        have x := of_decide_eq_true this.1; have y := of_decide_eq_true this.2
                        omega
                      have F3 : Hid (∀ i, i < ln → (L.getD i []).length ≤ 20 ∧ ∀ k, k < (L.getD i []).length → (vari L i k).size ≤ 1099511627776) := fun i hi => by
                        have := A3 i hi
                        rw [Bool.and_eq_true] at this
                        refine ⟨of_decide_eq_true this.1, fun k hk => ?_⟩
                        have := of_decide_eq_true (Ok.allTo_iff.1 this.2 k hk)
                        omega
                      clear A1 A2 A3
                      go_wp2_with fail
                      refine HC16.out.mono ?_
                      rintro e w1 ⟨r, rfl, hr, hb1⟩
                      have HR := Lib.hid hr; clear hr
                      have k0 : w1.cell? ⟨w.heap.size, 0, none⟩ = some (.slice SA sn sc) := (hb1.cell (by simp)).trans (by rw [World.cell?_alloc_at _ _ _ _ rfl]; rfl)
                      have k1 : w1.cell? ⟨w.heap.size, 1, none⟩ = some (.string nm) := (hb1.cell (by simp)).trans (by rw [World.cell?_alloc_at _ _ _ _ rfl]; rfl)
                      have k2 : w1.cell? ⟨w.heap.size, 2, none⟩ = some (.slice UA un uc) := (hb1.cell (by simp)).trans (by rw [World.cell?_alloc_at _ _ _ _ rfl]; rfl)
                      have k3 : w1.cell? ⟨w.heap.size, 3, none⟩ = some (.slice LA ln lc) := (hb1.cell (by simp)).trans (by rw [World.cell?_alloc_at _ _ _ _ rfl]; rfl)
                      have HBB : Hid (Below w.heap.size w w1) := HBE.out.trans (hb1.mono (by simp))
                      have HC17 := Lib.hid (check17_any SA UA LA sn sc un uc ln lc nm U L w1 _ ((HU.out.below hb1).more hb1.size) (RowsR.up (HL.out.below hb1) hb1.size) (Nat.le_refl _) (by omega) (by omega) (by omega) (fun i hi => (F2.out i hi).1) (fun i hi => (F2.out i hi).2) (by omega) (fun i hi => (F3.out i hi).1) (fun i k hi hk => (F3.out i hi).2 k hk))
                      clear hb1 HC16
                      by_cases hr0 : r = 0
                      · subst hr0
                        have h16 : ok16 S = true := HR.out.1 rfl
                        rw [h16] at HRR
                        clear h16
                        go_wp2_with fail
                        refine HC17.out.mono ?_
                        rintro e w2 ⟨r2, rfl, hr2, hb2⟩
                        have HR2 := Lib.hid hr2; clear hr2
                        have HB2 := Lib.hid hb2; clear hb2
                        by_cases hr20 : r2 = 0
                        · subst hr20
                          have h17 := Lib.hid (HR2.out.1 rfl)
                          clear HR2
                          go_wp2
                          go_ret
                          exact ⟨ret_bool (by rw [HRR.out, h17.out]; rfl), HBB.out.trans (HB2.out.mono HBB.out.size)⟩
                        · have hne : (r2 == 0) = false := beq_eq_false_iff_ne.2 hr20
                          have h17 : Hid (ok17 sn nm U L = false) := by
                            cases hh : ok17 sn nm U L with
                            | false => rfl
                            | true => exact absurd (HR2.out.2 hh) hr20
                          go_wp2
                          go_ret
                          exact ⟨ret_bool (by rw [HRR.out, h17.out]; rfl), HBB.out.trans (HB2.out.mono HBB.out.size)⟩
                      · have hne : (r == 0) = false := beq_eq_false_iff_ne.2 hr0
                        have h16 : Hid (ok16 S = false) := by
                          cases hh : ok16 S with
                          | false => rfl
                          | true => exact absurd (HR.out.2 hh) hr0
                        go_wp2
                        go_ret
                        exact ⟨ret_bool (by rw [HRR.out, h16.out]; rfl), HBB.out⟩
        · have g4z : decide ((100 : Int) < (nm.size : Int)) = true := decide_eq_true (by omega)
          have HRES := Lib.hid (HNO.out (by rw [HB0.out, decide_eq_false g4]; simp))
          go_enter Try.func11, Try.ntmps11
          go_wp2
          go_ret
          exact ⟨ret_bool HRES.out.symm, HBE.out⟩
      · have g3z : decide ((110 : Int) < (ln : Int)) = true := decide_eq_true (by omega)
        have HRES := Lib.hid (HNO.out (by rw [HB0.out, decide_eq_false g3]; simp))
        go_enter Try.func11, Try.ntmps11
        go_wp2
        go_ret
        exact ⟨ret_bool HRES.out.symm, HBE.out⟩
    · have g2z : decide ((110 : Int) < (un : Int)) = true := decide_eq_true (by omega)
      have HRES := Lib.hid (HNO.out (by rw [HB0.out, decide_eq_false g2]; simp))
      go_enter Try.func11, Try.ntmps11
      go_wp2
      go_ret
      exact ⟨ret_bool HRES.out.symm, HBE.out⟩
  · have g1z : decide ((60 : Int) < (sn : Int)) = true := decide_eq_true (by omega)
    have HRES := Lib.hid (HNO.out (by rw [HB0.out, decide_eq_false g1]; simp))
    go_enter Try.func11, Try.ntmps11
    go_wp2
    go_ret
    exact ⟨ret_bool HRES.out.symm, HBE.out⟩
end Go.Proofs.Ytgbhpmbkhhbifaa
