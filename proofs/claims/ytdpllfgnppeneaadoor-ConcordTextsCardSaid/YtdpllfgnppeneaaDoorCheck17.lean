import Derived.Test.YtdpllfgnppeneaaDoorUnit
namespace Go.Proofs.YtdpllfgnppeneaaDoor
open Go.RowKit
set_option linter.unusedVariables false
set_option linter.unusedSimpArgs false

def vari (L : List (List ByteArray)) (i k : Nat) : ByteArray := (L.getD i []).getD k ⟨#[]⟩
/-- The variants ahead of variant k of letter i. -/
def seenAt (L : List (List ByteArray)) (i k : Nat) : List ByteArray := (L.take i).flatten ++ (L.getD i []).take k
def okVar (L : List (List ByteArray)) (i k : Nat) : Bool := Ok.label17B (vari L i k).data.toList && !hasB (seenAt L i k) (vari L i k)
def okLetter (L : List (List ByteArray)) (i : Nat) : Bool := !decide ((L.getD i []).length = 0) && Ok.allTo (okVar L i) (L.getD i []).length
def ok17 (ns : Nat) (nm : ByteArray) (U : List (ByteArray × List Int)) (L : List (List ByteArray)) : Bool :=
  Ok.nameB nm.data.toList && ((decide (U.length ≤ 100) && Ok.allTo (okUnit ns U) U.length) && (decide (L.length ≤ 100) && Ok.allTo (okLetter L) L.length))
theorem flat_step {L : List (List ByteArray)} {i : Nat} (hl : i < L.length) : (L.take (i + 1)).flatten = (L.take i).flatten ++ L.getD i [] := by
  rw [List.take_succ_eq_append_getElem hl, List.flatten_append]
  simp [List.getD, hl]
theorem flatC_len {L : List (List ByteArray)} (h : ∀ i, i < L.length → (L.getD i []).length ≤ 1048576) : ∀ i, i ≤ L.length → ((L.take i).flatten).length ≤ 1048576 * i
  | 0, _ => by simp
  | i + 1, hi => by
    have ih := flatC_len h i (by omega)
    have hx := h i (by omega)
    rw [flat_step (by omega), List.length_append]
    omega
theorem seenAt_len {L : List (List ByteArray)} (h : ∀ i, i < L.length → (L.getD i []).length ≤ 1048576) {i k : Nat} (hi : i ≤ L.length) (hk : k ≤ 1048576) : (seenAt L i k).length ≤ 1048576 * i + 1048576 := by
  have := flatC_len h i hi
  unfold seenAt
  rw [List.length_append, List.length_take]
  omega
theorem seenAt_next {L : List (List ByteArray)} {i k : Nat} (hk : k < (L.getD i []).length) : seenAt L i (k + 1) = seenAt L i k ++ [vari L i k] := by
  unfold seenAt vari
  generalize L.getD i [] = l at hk ⊢
  rw [List.take_succ_eq_append_getElem hk, List.append_assoc]
  have e : l.getD k ⟨#[]⟩ = l[k] := by simp [List.getD, hk]
  rw [e]
theorem seenAt_row {L : List (List ByteArray)} {i : Nat} (hi : i < L.length) : seenAt L (i + 1) 0 = seenAt L i (L.getD i []).length := by
  unfold seenAt
  rw [flat_step hi, List.take_zero, List.append_nil, List.take_length]
theorem rows_at' {w : World} {B : Nat} {A : Option Addr} {n k : Nat} {L : List (List ByteArray)} (h : RowsR w B A n L) (hk : k < n) :
    ∃ ad A' c', A = some ad ∧ ad.block < B ∧ w.cell? (ad.add k) = some (Value.slice A' (L.getD k []).length c') ∧ SR w B A' (L.getD k []).length (L.getD k []) := by
  obtain ⟨ad, l, A', n', c', e, hb, hl, hc, hs⟩ := h.at_ hk
  have e1 : L.getD k [] = l := by rw [List.getD, hl]; rfl
  have e2 : n' = l.length := hs.len.symm
  subst e2
  rw [e1]
  exact ⟨ad, A', c', e, hb, hc, hs⟩

/-- The two boxes of 'Check'. -/
structure CBox (w wr : World) (SA : Option Addr) (sn sc : Nat) (nm : ByteArray) (UA : Option Addr) (un uc : Nat) (LA : Option Addr) (ln lc : Nat) : Prop where
  inv : wr.cell? ⟨w.heap.size, 0, none⟩ = some (.slice SA sn sc)
  name : wr.cell? ⟨w.heap.size + 1, 0, none⟩ = some (.string nm)
  units : wr.cell? ⟨w.heap.size + 1, 1, none⟩ = some (.slice UA un uc)
  letters : wr.cell? ⟨w.heap.size + 1, 2, none⟩ = some (.slice LA ln lc)
theorem CBox.on {w wr w' : World} {SA : Option Addr} {sn sc : Nat} {nm : ByteArray} {UA : Option Addr} {un uc : Nat} {LA : Option Addr} {ln lc : Nat} (h : CBox w wr SA sn sc nm UA un uc LA ln lc) (hb : Below (w.heap.size + 1 + 1) wr w') : CBox w w' SA sn sc nm UA un uc LA ln lc :=
  ⟨(hb.cell (by show w.heap.size < _; omega)).trans h.inv, (hb.cell (by show w.heap.size + 1 < _; omega)).trans h.name, (hb.cell (by show w.heap.size + 1 < _; omega)).trans h.units, (hb.cell (by show w.heap.size + 1 < _; omega)).trans h.letters⟩

set_option maxHeartbeats 8000000 in
theorem check17_any (SA UA LA : Option Addr) (sn sc un uc ln lc : Nat) (nm : ByteArray) (U : List (ByteArray × List Int)) (L : List (List ByteArray)) (w : World) (B : Nat) (hU : UnitsR w B UA un U) (hL : RowsR w B LA ln L) (hB : B ≤ w.heap.size)
    (hsn : sn ≤ 140737488355328) (hnm : nm.size ≤ 1099511627776) (hun : un ≤ 140737488355328) (hus : ∀ i, i < un → (graph U i).size ≤ 1099511627776) (hul : ∀ i, i < un → (usegs U i).length ≤ 140737488355328)
    (hln : ln ≤ 140737488355328) (hll : ∀ i, i < ln → (L.getD i []).length ≤ 1048576) (hvs : ∀ i k, i < ln → k < (L.getD i []).length → (vari L i k).size ≤ 1099511627776) :
    Calls Tryd.prog 30 #[.agg #[.slice SA sn sc], .agg #[.string nm, .slice UA un uc, .slice LA ln lc]] w (CkPost w (ok17 sn nm U L)) := by
  have HLU := Lib.hid hU.1
  have HLL := Lib.hid hL.len
  have HU := Lib.hid hU; clear hU
  have HL := Lib.hid hL; clear hL
  have HUS := Lib.hid hus; clear hus
  have HUL := Lib.hid hul; clear hul
  have HLLS := Lib.hid hll; clear hll
  have HVS := Lib.hid hvs; clear hvs
  have HFL : Hid (∀ i, i < L.length → (L.getD i []).length ≤ 1048576) := fun i hi => HLLS.out i (by rw [HLL.out] at hi; exact hi)
  go_enter Tryd.func30, Tryd.ntmps30
  go_wp2_with fail
  obtain ⟨W2, hW2⟩ : ∃ W2, (w.alloc (.cells #[.slice SA sn sc] 24)).alloc (.cells #[.string nm, .slice UA un uc, .slice LA ln lc] 28) = W2 := ⟨_, rfl⟩
  have HB2 : Hid (Below w.heap.size w W2) := by rw [← hW2]; exact ((Below.refl _ w).alloc (Nat.le_refl _) _).alloc (by simp) _
  have hz2 : W2.heap.size = w.heap.size + 1 + 1 := by rw [← hW2]; simp
  have HX2 : Hid (CBox w W2 SA sn sc nm UA un uc LA ln lc) := by
    rw [← hW2]
    refine ⟨?_, ?_, ?_, ?_⟩
    · rw [World.cell?_alloc_lt _ _ _ (by simp), World.cell?_alloc_at _ _ _ _ rfl]; rfl
    · rw [World.cell?_alloc_at _ _ _ _ (by simp)]; rfl
    · rw [World.cell?_alloc_at _ _ _ _ (by simp)]; rfl
    · rw [World.cell?_alloc_at _ _ _ _ (by simp)]; rfl
  rw [hW2]
  clear hW2
  have HZ2 := Lib.hid hz2; clear hz2
  obtain ⟨nb, hnb⟩ : ∃ nb, Hid (Ok.nameB nm.data.toList = nb) := ⟨_, rfl⟩
  have hname := name10_any nm W2 (by omega)
  rw [hnb.out] at hname
  refine hname.mono ?_
  clear hname
  rintro e w1 ⟨rfl, rfl⟩
  obtain ⟨x0, x1, x2, x3⟩ := HX2.out
  cases nb with
  | false =>
    have HRES : Hid (ok17 sn nm U L = false) := by show _ = _; unfold ok17; rw [hnb.out]; rfl
    go_wp2
    go_ret
    exact ckNo (by decide) HRES.out HB2.out
  | true =>
    by_cases hu100 : un ≤ 100
    · have hu100z : decide ((100 : Int) < (un : Int)) = false := decide_eq_false (by omega)
      go_wp2_with fail
      clear x0 x1 x2 x3
      go_loopw [5, 6] (fun v _ wr => ∃ k : Nat, k ≤ un ∧ v = .int .i64 k ∧ Hid (Below (w.heap.size + 1 + 1) W2 wr) ∧ Hid (Ok.allTo (okUnit sn U) k = true)) (fun v _ _ => un - (intOf v).toNat)
      case atStart => exact ⟨0, Nat.zero_le _, rfl, Below.refl _ _, rfl⟩
      case round =>
        obtain ⟨k, hk, rfl, HB, HA⟩ := hrel
        have HX : Hid (CBox w wr SA sn sc nm UA un uc LA ln lc) := HX2.out.on HB.out
        have HOUT : Hid (Below w.heap.size w wr) := HB2.out.trans (HB.out.mono (by omega))
        have hszr : Hid (w.heap.size + 1 + 1 ≤ wr.heap.size) := by have := HB.out.size; rw [HZ2.out] at this; exact this
        obtain ⟨x0, x1, x2, x3⟩ := HX.out
        by_cases hlt : k < un
        · have HC := Lib.hid (unit17_any SA UA LA sn sc un uc ln lc k nm U wr B (HU.out.below (HOUT.out.mono hB)) (by have := HOUT.out.size; omega) hlt HUS.out hun hsn HUL.out)
          go_wp2_with fail
          refine HC.out.mono ?_
          rintro e w1 ⟨r, rfl, hr, hb1⟩
          have HR := Lib.hid hr; clear hr
          have HB1 : Hid (Below (w.heap.size + 1 + 1) W2 w1) := HB.out.trans (hb1.mono hszr.out)
          clear hb1 HC x0 x1 x2 x3 HX
          by_cases hr0 : r = 0
          · subst hr0
            have HN := Lib.hid (Ok.allTo_next HA.out (HR.out.1 rfl))
            go_wp2
            go_roundw
            case rel => exact ⟨k + 1, by omega, by go_num, HB1, HN⟩
            case measure => simp [intOf]; omega
          · have hne : (r != 0) = true := by rw [bne_iff_ne]; exact hr0
            have HRES : Hid (ok17 sn nm U L = false) := by
              show _ = _
              have hf : okUnit sn U k = false := by
                cases hh : okUnit sn U k with
                | false => rfl
                | true => exact absurd (HR.out.2 hh) hr0
              unfold ok17
              rw [Ok.allTo_false (by rw [HLU.out]; exact hlt) hf]
              simp
            go_wp2
            go_ret
            exact ckNo hr0 HRES.out (HB2.out.trans (HB1.out.mono (by omega)))
        · obtain rfl : un = k := by omega
          by_cases hl100 : ln ≤ 100
          · have hl100z : decide ((100 : Int) < (ln : Int)) = false := decide_eq_false (by omega)
            have HO1 : Hid (ok17 sn nm U L = Ok.allTo (okLetter L) L.length) := by
              show _ = _
              unfold ok17
              rw [hnb.out, HLU.out, HA.out, HLL.out, decide_eq_true hu100, decide_eq_true hl100]
              simp
            go_wp2_with fail
            clear x0 x1 x2 x3
            go_loopw [7, 8, 9, 10] (fun v7 v8 _ _ wr => ∃ k : Nat, k ≤ ln ∧ v8 = .int .i64 k ∧ Hid (Below (w.heap.size + 1 + 1) W2 wr) ∧ Hid (wr.ownsRow (w.heap.size + 1 + 1) 9 1 v7 (seenAt L k 0).length ((seenAt L k 0).map .string)) ∧ Hid (Ok.allTo (okLetter L) k = true)) (fun _ v _ _ _ => ln - (intOf v).toNat)
            case atStart => exact ⟨0, Nat.zero_le _, rfl, HB, World.ownsRow_nil _ _ _ _, rfl⟩
            case round =>
              clear HB HX HOUT hszr HA
              obtain ⟨i, hi, rfl, HB, HOWN, HA⟩ := hrel
              have HX : Hid (CBox w wr SA sn sc nm UA un uc LA ln lc) := HX2.out.on HB.out
              have HOUT : Hid (Below w.heap.size w wr) := HB2.out.trans (HB.out.mono (by omega))
              obtain ⟨x0, x1, x2, x3⟩ := HX.out
              by_cases hlt : i < ln
              · obtain ⟨ad, A', c', hLA, hab, hc, hSR⟩ := rows_at' (HL.out.below (HOUT.out.mono hB)) hlt
                subst hLA
                have HSR := Lib.hid hSR; clear hSR
                have HCELL := Lib.hid hc
                have HNO : Hid (okLetter L i = false → ok17 sn nm U L = false) := fun h => by rw [HO1.out]; exact Ok.allTo_false (by rw [HLL.out]; exact hlt) h
                obtain ⟨m, hm⟩ : ∃ m, Hid ((L.getD i []).length = m) := ⟨_, rfl⟩
                have hm20 : m ≤ 1048576 := by rw [← hm.out]; exact HLLS.out i hlt
                rw [hm.out] at hc
                have hiz : (i : Int) < (ln : Int) := by omega
                by_cases hm0 : m = 0
                · have HRES := Lib.hid (HNO.out (by unfold okLetter; rw [hm.out, hm0]; rfl))
                  have hmz : ((m : Int) == 0) = true := beq_iff_eq.2 (by omega)
                  have HM0 := Lib.hid hm0; clear hm0
                  go_wp2
                  go_ret
                  exact ckNo (by decide) HRES.out HOUT.out
                · have hmz : ((m : Int) == 0) = false := beq_eq_false_iff_ne.2 (by omega)
                  go_wp2_with fail
                  clear x0 x1 x2 x3 hc
                  go_loopw [7, 9, 10] (fun v7 v9 _ wr => ∃ k : Nat, k ≤ m ∧ v9 = .int .i64 k ∧ Hid (Below (w.heap.size + 1 + 1) W2 wr) ∧ Hid (wr.ownsRow (w.heap.size + 1 + 1) 9 1 v7 (seenAt L i k).length ((seenAt L i k).map .string)) ∧ Hid (Ok.allTo (okVar L i) k = true)) (fun _ v _ _ => m - (intOf v).toNat)
                  case atStart => exact ⟨0, Nat.zero_le _, rfl, HB, HOWN, rfl⟩
                  case round =>
                    clear HB HX HOUT HOWN HSR HCELL
                    obtain ⟨k, hk, rfl, HB, HOWN, HA2⟩ := hrel
                    have HX : Hid (CBox w wr SA sn sc nm UA un uc (some ad) ln lc) := HX2.out.on HB.out
                    have HOUT : Hid (Below w.heap.size w wr) := HB2.out.trans (HB.out.mono (by omega))
                    have hszr : w.heap.size + 1 + 1 ≤ wr.heap.size := by have := HB.out.size; rw [HZ2.out] at this; exact this
                    obtain ⟨x0, x1, x2, x3⟩ := HX.out
                    obtain ⟨ad', A'', c'', hLA, hab', hc, hSR⟩ := rows_at' (HL.out.below (HOUT.out.mono hB)) hlt
                    obtain rfl : ad = ad' := by injection hLA
                    clear hLA
                    rw [hm.out] at hc hSR
                    by_cases hkm : k < m
                    · obtain ⟨bd, s, hbd, hbb, hx, hcx⟩ := hSR.at_ hkm
                      subst hbd
                      have hvx : vari L i k = s := by unfold vari; rw [List.getD, hx]; rfl
                      have HVX := Lib.hid hvx; clear hvx hx
                      have hssz : s.size ≤ 1099511627776 := by rw [← HVX.out]; exact HVS.out i k hlt (by rw [hm.out]; exact hkm)
                      have hkz : (k : Int) < (m : Int) := by omega
                      obtain ⟨lb, hlb⟩ : ∃ lb, Hid (Ok.label17B s.data.toList = lb) := ⟨_, rfl⟩
                      have hlab := label17_any s wr hssz
                      rw [hlb.out] at hlab
                      have HLAB := Lib.hid hlab; clear hlab
                      have hlen := seenAt_len HFL.out (i := i) (k := k) (by rw [HLL.out]; omega) (by omega)
                      have HNX := Lib.hid (seenAt_next (L := L) (i := i) (k := k) (by rw [hm.out]; exact hkm))
                      cases lb with
                      | false =>
                        have HRES := Lib.hid (HNO.out (by unfold okLetter; rw [hm.out, Ok.allTo_false hkm (by unfold okVar; rw [HVX.out, hlb.out]; rfl)]; simp))
                        go_wp2_with fail
                        refine HLAB.out.mono ?_
                        rintro e w1 ⟨rfl, hb1⟩
                        have HB1 := Lib.hid hb1; clear hb1
                        go_wp2
                        go_ret
                        exact ckNo (by decide) HRES.out (HOUT.out.trans (HB1.out.mono (by omega)))
                      | true =>
                        go_wp2_with fail
                        refine HLAB.out.mono ?_
                        rintro e w1 ⟨rfl, hb1⟩
                        have HB1 : Hid (Below (w.heap.size + 1 + 1) W2 w1) := HB.out.trans (hb1.mono hszr)
                        have hown1 := own_below HOWN.out hb1
                        have hsz1 : w.heap.size + 1 + 1 ≤ w1.heap.size := by have := hb1.size; omega
                        clear hb1 HLAB x0 x1 x2 x3 hc hcx hSR HX HB HOWN HOUT
                        have HOUT : Hid (Below w.heap.size w w1) := HB2.out.trans (HB1.out.mono (by omega))
                        obtain ⟨A3, c3, hv, hc3, hc4, hrd⟩ := own_form hown1
                        subst hv
                        have HOWN := Lib.hid hown1; clear hown1
                        obtain ⟨hb, hhb⟩ : ∃ hb, Hid (hasB (seenAt L i k) s = hb) := ⟨_, rfl⟩
                        have hhas := has17_any A3 _ c3 (seenAt L i k) s w1 hrd (by omega)
                        rw [hhb.out] at hhas
                        have HHAS := Lib.hid hhas; clear hhas hrd
                        cases hb with
                        | true =>
                          have HRES := Lib.hid (HNO.out (by unfold okLetter; rw [hm.out, Ok.allTo_false hkm (by unfold okVar; rw [HVX.out, hhb.out]; simp)]; simp))
                          go_wp2_with fail
                          refine HHAS.out.mono ?_
                          rintro e w2 ⟨rfl, rfl⟩
                          go_wp2
                          go_ret
                          exact ckNo (by decide) HRES.out HOUT.out
                        | false =>
                          have HN := Lib.hid (Ok.allTo_next HA2.out (by unfold okVar; rw [HVX.out, hlb.out, hhb.out]; rfl))
                          go_wp2_with fail
                          refine HHAS.out.mono ?_
                          rintro e w2 ⟨rfl, rfl⟩
                          go_wp2_with (at_builtin; refine wpList_app1 rfl (.tmp 75) (.tmp 77) _ rfl (w.heap.size + 1 + 1) 9 16 _ info_string rfl Tryd.underlying31 rfl HOWN.out rfl rfl (by omega) (by omega) hsz1 ?_; rintro v7 w2 hown7 hb2 hs2 hk2; clear hk2)
                          have HB3 : Hid (Below (w.heap.size + 1 + 1) W2 w2) := HB1.out.trans hb2
                          have HOWN3 : Hid (w2.ownsRow (w.heap.size + 1 + 1) 9 1 v7 (seenAt L i (k + 1)).length ((seenAt L i (k + 1)).map .string)) := by
                            rw [HNX.out, HVX.out]
                            have hh := hown7
                            show World.ownsRow _ _ _ _ _ _ _
                            simpa using hh
                          clear hown7 hb2
                          go_roundw
                          case rel => exact ⟨k + 1, by omega, by go_num, HB3, HOWN3, HN⟩
                          case measure => simp [intOf]; omega
                    · obtain rfl : m = k := by omega
                      have HN := Lib.hid (Ok.allTo_next HA.out (by unfold okLetter; rw [hm.out, HA2.out]; simp; exact hm0))
                      have HOWN4 : Hid (wr.ownsRow (w.heap.size + 1 + 1) 9 1 u7 (seenAt L (i + 1) 0).length ((seenAt L (i + 1) 0).map .string)) := by
                        rw [seenAt_row (by rw [HLL.out]; exact hlt), hm.out]
                        exact HOWN.out
                      go_wp2
                      go_roundw
                      case rel => exact ⟨i + 1, by omega, by go_num, HB, HOWN4, HN⟩
                      case measure => simp [intOf]; omega
              · obtain rfl : ln = i := by omega
                have HRES : Hid (ok17 sn nm U L = true) := by show _ = _; rw [HO1.out, HLL.out]; exact HA.out
                go_wp2
                go_ret
                exact ckYes HRES.out HOUT.out
          · have hl100z : decide ((100 : Int) < (ln : Int)) = true := decide_eq_true (by omega)
            have HRES : Hid (ok17 sn nm U L = false) := by
              show _ = _
              unfold ok17
              rw [HLL.out, decide_eq_false hl100]
              simp
            go_wp2
            go_ret
            exact ckNo (by decide) HRES.out HOUT.out
    · have hu100z : decide ((100 : Int) < (un : Int)) = true := decide_eq_true (by omega)
      have HRES : Hid (ok17 sn nm U L = false) := by
        show _ = _
        unfold ok17
        rw [HLU.out, decide_eq_false hu100]
        simp
      go_wp2
      go_ret
      exact ckNo (by decide) HRES.out HB2.out
end Go.Proofs.YtdpllfgnppeneaaDoor
