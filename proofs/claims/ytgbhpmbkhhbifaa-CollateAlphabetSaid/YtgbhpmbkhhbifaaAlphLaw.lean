/-
  CollateAlphabet, walked: it returns true, and nothing that was there has changed.
-/
import Derived.Test.YtgbhpmbkhhbifaaPlainAlpha
import Derived.Test.YtgbhpmbkhhbifaaAppStep
import Derived.Test.YtgbhpmbkhhbifaaCmpLaw
import Derived.Test.YtgbhpmbkhhbifaaSame
import Derived.Deep.RegionHeld3
import Derived.Deep.DrawnRows
import Derived.IntWalk
namespace Go.Proofs.Ytgbhpmbkhhbifaa
open Go.RowKit Col Srt
set_option linter.unusedVariables false
set_option linter.unusedSimpArgs false
attribute [local go_sem ↓] Go.wp_at_zero Go.wp_at_succ
/-- What has been collected: nothing, or a row whose last string is a variant ahead of the one that comes. -/
def Coll (L : List (List ByteArray)) (i k : Nat) (ys : List ByteArray) : Prop := ys.length ≤ 20 * i + k ∧ (0 < ys.length → ∃ x, ys[ys.length - 1]? = some x ∧ Ahead L i k x)
theorem Coll.row {L : List (List ByteArray)} {i k : Nat} {ys : List ByteArray} (h : Coll L i k ys) (hk : k ≤ 20) : Coll L (i + 1) 0 ys :=
  ⟨by have := h.1; omega, fun h0 => by
    obtain ⟨x, hx, ha⟩ := h.2 h0
    exact ⟨x, hx, ha.row⟩⟩
theorem Coll.snoc {L : List (List ByteArray)} {i k : Nat} {ys : List ByteArray} (h : Coll L i k ys) (hi : i < L.length) (hk : k < (L.getD i []).length) : Coll L i (k + 1) (ys ++ [vari L i k]) :=
  ⟨by have := h.1; simp; omega, fun _ => ⟨vari L i k, by simp, i, k, hi, hk, rfl, .inr ⟨rfl, by omega⟩⟩⟩
theorem b1 (w : World) (o : Obj) : Below w.heap.size w (w.alloc o).drew := ((Below.refl _ w).alloc (Nat.le_refl _) o).drew
theorem b2 {w W : World} (h : Below w.heap.size w W) (o : Obj) : Below w.heap.size w (W.alloc o) := h.alloc h.size o
theorem read_int (w : World) (i : Int) : Reads (w.alloc (.cells #[.int .i64 i] 3)).drew (w.alloc (.cells #[.int .i64 i] 3)).drew.heap.size 1 (some ⟨w.heap.size, 0, none⟩) 1 ([i].map (.int .i64)) :=
  (reads_one (W := w) (e := 3) (x := .int .i64 i) rfl).more (by simp [World.drew])
theorem read_int2 (w : World) (i : Int) : Reads (w.alloc (.cells #[.int .i64 i] 3)) (w.alloc (.cells #[.int .i64 i] 3)).heap.size 1 (some ⟨w.heap.size, 0, none⟩) 1 ([i].map (.int .i64)) :=
  (reads_one (W := w) (e := 3) (x := .int .i64 i) rfl).more (by simp)

set_option maxHeartbeats 4000000 in
set_option maxRecDepth 100000 in
theorem alphabet_law (SA UA LA : Option Addr) (sn sc un uc ln lc : Nat) (nm : ByteArray) (S : List (ByteArray × Int)) (U : List (ByteArray × List Int)) (L : List (List ByteArray)) (w : World) (hS : SegsR w w.heap.size SA sn S) (hU : UnitsR w w.heap.size UA un U) (hL : RowsR w w.heap.size LA ln L)
    (hnm : nm.size ≤ 9223372036854775807) :
    Calls Try.prog 10 #[.agg #[.slice SA sn sc, .string nm, .slice UA un uc, .slice LA ln lc]] w fun e w' => e = .returned (.bool true) ∧ Below w.heap.size w w' := by
  have hbe := below_new w (.cells #[.slice SA sn sc, .string nm, .slice UA un uc, .slice LA ln lc] 30)
  have hr := right_any SA UA LA sn sc un uc ln lc nm S U L (w.alloc (.cells #[.slice SA sn sc, .string nm, .slice UA un uc, .slice LA ln lc] 30)) ((hS.below hbe).more hbe.size) ((hU.below hbe).more hbe.size) (hL.on hbe) hnm
  obtain ⟨rb, hrb⟩ : ∃ rb, Hid (rightB S nm U L = rb) := ⟨_, rfl⟩
  rw [hrb.out] at hr
  have HR := Lib.hid hr; clear hr
  have HBE := Lib.hid hbe; clear hbe
  have HL := Lib.hid hL; clear hL hS hU
  cases rb with
  | false =>
    go_enter Try.func10, Try.ntmps10
    go_wp2_with fail
    refine HR.out.mono ?_
    rintro e w1 ⟨rfl, hb1⟩
    have HB1 : Hid (Below w.heap.size w w1) := HBE.out.trans (hb1.mono HBE.out.size)
    clear hb1
    go_wp2_with fail
    refine (awake_any _).mono ?_
    rintro e w2 ⟨rfl, hb2⟩
    go_wp2
    go_ret
    exact ⟨rfl, HB1.out.trans (hb2.mono HB1.out.size)⟩
  | true =>
    have HSZ := Lib.hid (right_sized hrb.out)
    go_enter Try.func10, Try.ntmps10
    go_wp2_with fail
    refine HR.out.mono ?_
    rintro e w1 ⟨rfl, hb1⟩
    have HB1 : Hid (Below w.heap.size w w1) := HBE.out.trans (hb1.mono HBE.out.size)
    have HX1 : Hid (BoxA w1 w.heap.size SA sn sc nm UA un uc LA ln lc) := (BoxA.new w SA sn sc nm UA un uc LA ln lc 30).on hb1 (by simp)
    have hsz1 : w.heap.size < w1.heap.size := by have := hb1.size; simp at this; omega
    clear hb1
    have hsm := right_small hrb.out
    have hln : ln ≤ 110 := by have := hsm.1; rw [HL.out.len] at this; exact this
    have HSM := Lib.hid hsm.2; clear hsm
    have HLN := Lib.hid HL.out.len
    have KX : Hid (∀ W, Below w1.heap.size w1 W → W.cell? ⟨w.heap.size, 1, none⟩ = some (.string nm) ∧ W.cell? ⟨w.heap.size, 2, none⟩ = some (.slice UA un uc) ∧ W.cell? ⟨w.heap.size, 3, none⟩ = some (.slice LA ln lc)) := fun W hW =>
      ⟨(HX1.out.on hW hsz1).name, (HX1.out.on hW hsz1).units, (HX1.out.on hW hsz1).letters⟩
    have KL : Hid (∀ W, Below w1.heap.size w1 W → RowsR W W.heap.size LA ln L) := fun W hW => HL.out.on (HB1.out.trans (hW.mono HB1.out.size))
    have hx1 := KX.out _ (Below.refl _ _)
    clear HX1
    go_wp2_with fail
    clear hx1
    go_loopw [3, 4, 5, 6, 7, 8, 9, 18] (fun v3 _ _ _ _ _ _ v wr => ∃ (i : Nat) (ys : List ByteArray), i ≤ ln ∧ v = .int .i64 i ∧ Hid (wr.ownsRow w1.heap.size 9 1 v3 ys.length (ys.map .string)) ∧ Hid (Coll L i 0 ys) ∧ Hid (Below w1.heap.size w1 wr)) (fun _ _ _ _ _ _ _ v _ => ln - (intOf v).toNat)
    case atStart => exact ⟨0, [], Nat.zero_le _, rfl, World.ownsRow_nil _ _ _ _, ⟨by simp, fun h => by simp at h⟩, Below.refl _ _⟩
    case round =>
      obtain ⟨i, ys, hi, rfl, HO, HC, HBR⟩ := hrel
      by_cases hlt : i < ln
      · have hiz : (i : Int) < (ln : Int) := by omega
        obtain ⟨adl, lv, AV, nv, cv, rfl, lb1, hlv, hcl, hsr⟩ := (KL.out _ (Below.refl _ _)).at_ hlt
        have HVN : Hid (lv.length = nv) := hsr.len
        have hlvd : L.getD i [] = lv := by rw [List.getD, hlv]; rfl
        have HIL : Hid (i < L.length) := by show _ < _; rw [HLN.out]; exact hlt
        have hv20 : nv ≤ 20 := by have := (HSM.out i HIL.out).1; rw [hlvd, HVN.out] at this; exact this
        have HLVD := Lib.hid hlvd
        have HSR := Lib.hid hsr
        have HCL : Hid (∀ W, Below w1.heap.size w1 W → W.cell? (adl.add i) = some (.slice AV nv cv)) := fun W hW => (hW.cell (by rw [block_of_add]; exact lb1)).trans hcl
        clear hlv hsr hlvd lb1 hcl
        have hxr := KX.out _ HBR.out
        have hclr := HCL.out _ HBR.out
        go_wp2_with fail
        clear hxr hclr
        go_loopw [3, 5, 6, 7, 8, 9, 28] (fun v3 _ _ _ _ _ v wq => ∃ (k : Nat) (ys : List ByteArray), k ≤ nv ∧ v = .int .i64 k ∧ Hid (wq.ownsRow w1.heap.size 9 1 v3 ys.length (ys.map .string)) ∧ Hid (Coll L i k ys) ∧ Hid (Below w1.heap.size w1 wq)) (fun _ _ _ _ _ _ v _ => nv - (intOf v).toNat)
        case atStart => exact ⟨0, ys, Nat.zero_le _, rfl, HO, HC, HBR⟩
        case round =>
          clear HO HC HBR
          obtain ⟨k, ys, hk, rfl, HO, HC, HBQ⟩ := hrel
          obtain ⟨AO, co, rfl, hco, hco2, ro⟩ := own_form HO.out
          have RO := Lib.hid ro; clear ro
          by_cases hkt : k < nv
          · have hkz : (k : Int) < (nv : Int) := by omega
            obtain ⟨adv, v, rfl, lb2, hv, hcv⟩ := HSR.out.at_ hkt
            have HV : Hid (vari L i k = v) := by
              show _ = _
              unfold vari
              rw [HLVD.out, List.getD, hv]
              rfl
            have HKL : Hid (k < (L.getD i []).length) := by show _ < _; rw [HLVD.out, HVN.out]; exact hkt
            have hvs : v.size ≤ 100 := by have := (HSM.out i HIL.out).2 k HKL.out; rw [HV.out] at this; exact this
            have HLS : Hid (letters L v.data.toList = [(i, k, true)]) := by
              have := letters_self hrb.out HIL.out HKL.out
              rw [HV.out] at this
              exact this
            have hxq := KX.out _ HBQ.out
            have hclq := HCL.out _ HBQ.out
            have hcvq : wr.cell? (adv.add k) = some (.string v) := (HBQ.out.cell (by rw [block_of_add]; exact lb2)).trans hcv
            have hlt2 := letters_any nm UA (some adl) un uc ln lc L v wr wr.heap.size (KL.out _ HBQ.out) (Nat.le_refl _) HSZ.out (by omega)
            rw [HLS.out] at hlt2
            have HLT := Lib.hid hlt2
            obtain ⟨m, hm⟩ : ∃ m, ys.length = m := ⟨_, rfl⟩
            have hm22 : m ≤ 2300 := by have := HC.out.1; omega
            rw [hm]
            rw [hm] at HO RO hco
            have HM := Lib.hid hm
            clear hv hcv hlt2 hm
            go_wp2_with fail
            refine HLT.out.mono ?_
            rintro e w2 ⟨va, vb, rfl, hva, hvb, hb2⟩
            obtain ⟨A1, c1, rfl, _, _, ra⟩ := own_form hva
            obtain ⟨A2, c2, rfl, _, _, rb⟩ := own_form hvb
            have RA : Hid (Reads w2 w2.heap.size 1 A1 1 ([(i : Int)].map (.int .i64))) := ra
            have RB : Hid (Reads w2 w2.heap.size 1 A2 1 ([(k : Int)].map (.int .i64))) := rb
            have HB2 : Hid (Below w1.heap.size w1 w2) := HBQ.out.trans (hb2.mono HBQ.out.size)
            have HO2 := Lib.hid (own_below HO.out hb2)
            have RO2 : Hid (Reads w2 w2.heap.size 1 AO m (ys.map .string)) := RO.out.on hb2
            have hx2 := KX.out _ HB2.out
            clear hva hvb ra rb HLT hxq hclq hcvq hb2 HO RO
            have hal : allL [(i, k, true)] = true := rfl
            rw [hal]
            simp only [List.length_cons, List.length_nil, Nat.zero_add]
            clear hal
            have KX2 : Hid (∀ W, Below w2.heap.size w2 W → W.cell? ⟨w.heap.size, 1, none⟩ = some (.string nm) ∧ W.cell? ⟨w.heap.size, 2, none⟩ = some (.slice UA un uc) ∧ W.cell? ⟨w.heap.size, 3, none⟩ = some (.slice (some adl) ln lc)) := fun W hW => KX.out _ (HB2.out.trans (hW.mono HB2.out.size))
            by_cases hm0 : m = 0
            · have hj0 : decide ((0 : Int) < (m : Int)) = false := decide_eq_false (by omega)
              have hj0n : decide (0 < m) = false := decide_eq_false (by omega)
              clear hm0
              go_wp2_with fail
              refine wp_region_noPanic ?_
              refine wp_region_held_drew (S := fun w' => w'.cell? ⟨w.heap.size, 1, none⟩ = some (.string nm) ∧ w'.cell? ⟨w.heap.size, 2, none⟩ = some (.slice UA un uc) ∧ w'.cell? ⟨w.heap.size, 3, none⟩ = some (.slice (some adl) ln lc)) (by kernel_rfl) ?_ (fun hHeld => ?_)
              · (try dsimp only); (first | assumption | go_keep)
              refine wpAnyH_take (i := 0) (oi := { dst := some 48, op := Go.Op.move (Go.Operand.tmp 9), type := 4, pos := "law.go:192", after := #[], guard := none }) (v := ?_) rfl (by kernel_rfl) (by kernel_rfl) (by kernel_rfl) (fun _ _ _ h => h) (Or.inl ⟨by rfl, ?_⟩) (by assumption) ?_
              rotate_left
              · (intro w hSw; (try dsimp only at hSw); go_simp; try with_reducible rfl)
              rotate_left
              try simp only [Act.put, List.setIfInBounds_toArray, List.set_cons_zero, List.set_cons_succ]
              refine wpAnyH_take (i := 1) (oi := { dst := some 49, op := Go.Op.unOp Go.UnOp.not 4 (Go.Operand.tmp 48), type := 4, pos := "law.go:192", after := #[{ on := 0, ground := Go.Ground.data }], guard := none }) (v := ?_) rfl (by kernel_rfl) (by kernel_rfl) (by kernel_rfl) (fun _ _ _ h => h) (Or.inl ⟨by rfl, ?_⟩) (by assumption) ?_
              rotate_left
              · (intro w hSw; (try dsimp only at hSw); go_simp; try with_reducible rfl)
              rotate_left
              try simp only [Act.put, List.setIfInBounds_toArray, List.set_cons_zero, List.set_cons_succ]
              refine wpAnyH_take (i := 2) (oi := { dst := some 50, op := Go.Op.move (Go.Operand.tmp 49), type := 4, pos := "law.go:192", after := #[{ on := 1, ground := Go.Ground.data }], guard := none }) (v := ?_) rfl (by kernel_rfl) (by kernel_rfl) (by kernel_rfl) (fun _ _ _ h => h) (Or.inl ⟨by rfl, ?_⟩) (by assumption) ?_
              rotate_left
              · (intro w hSw; (try dsimp only at hSw); go_simp; try with_reducible rfl)
              rotate_left
              try simp only [Act.put, List.setIfInBounds_toArray, List.set_cons_zero, List.set_cons_succ]
              refine wpAnyH_take (i := 3) (oi := { dst := some 51, op := Go.Op.move (Go.Operand.tmp 7), type := 33, pos := "law.go:192", after := #[{ on := 2, ground := Go.Ground.guard }], guard := some (2, false) }) (v := ?_) rfl (by kernel_rfl) (by kernel_rfl) (by kernel_rfl) (fun _ _ _ h => h) (Or.inl ⟨by rfl, ?_⟩) (by assumption) ?_
              rotate_left
              · (intro w hSw; (try dsimp only at hSw); go_simp; try with_reducible rfl)
              rotate_left
              try simp only [Act.put, List.setIfInBounds_toArray, List.set_cons_zero, List.set_cons_succ]
              refine wpAnyH_take (i := 4) (oi := { dst := some 52, op := Go.Op.move (Go.Operand.tmp 4), type := 3, pos := "law.go:192", after := #[{ on := 2, ground := Go.Ground.guard }], guard := some (2, false) }) (v := ?_) rfl (by kernel_rfl) (by kernel_rfl) (by kernel_rfl) (fun _ _ _ h => h) (Or.inl ⟨by rfl, ?_⟩) (by assumption) ?_
              rotate_left
              · (intro w hSw; (try dsimp only at hSw); go_simp; try with_reducible rfl)
              rotate_left
              try simp only [Act.put, List.setIfInBounds_toArray, List.set_cons_zero, List.set_cons_succ]
              refine wpAnyH_ready (rs := [5]) (by kernel_rfl) (by simp) ?_
              refine AllReadyH.cons (o := { dst := some 53, op := Go.Op.buildSlice 33 1 #[(0, Go.Operand.tmp 52)], type := 33, pos := "law.go:192", after := #[{ on := 4, ground := Go.Ground.data }, { on := 2, ground := Go.Ground.guard }], guard := some (2, false) }) rfl (fun K hK => ?_) AllReadyH.nil
              go_simp
              refine hK.out _ _ ?_ (fun hHeld => ?_)
              · (try dsimp only); (first | assumption | go_keep)
              clear hK K
              try simp only [Act.put, List.setIfInBounds_toArray, List.set_cons_zero, List.set_cons_succ]
              refine wpAnyH_ready (rs := [6]) (by kernel_rfl) (by simp) ?_
              refine AllReadyH.cons (o := { dst := some 54, op := Go.Op.call { callee := Go.Callee.value (Go.Operand.func 15), args := #[Go.Operand.tmp 51, Go.Operand.tmp 53], argTypes := #[33, 33] }, type := 4, pos := "law.go:192", after := #[{ on := 3, ground := Go.Ground.data }, { on := 5, ground := Go.Ground.data }, { on := 2, ground := Go.Ground.chain }, { on := 2, ground := Go.Ground.guard }], guard := some (2, false) }) rfl (fun K hK => ?_) AllReadyH.nil
              go_simp
              go_at_call 15; refine (same_ints A1 (some ⟨w2.heap.size, 0, none⟩) 1 1 c1 1 [(i : Int)] [(i : Int)] _ (RA.out.on (b1 _ _)) (read_int w2 i) (by omega) (by omega)).mono ?_; rintro e w4 ⟨he, q, hq⟩
              rw [(by simp : ([(i : Int)] == [(i : Int)]) = true)] at he
              subst he
              have HF4 : Hid (Below w2.heap.size w2 w4) := by show Below _ _ _; rw [hq]; exact below_drewN (b1 _ _) q
              clear hq
              have hs4 := KX2.out _ HF4.out
              have tok4 : True := trivial
              go_wp2_with fail
              refine hK.out _ _ ?_ (fun hHeld => ?_)
              · (try dsimp only); (first | assumption | go_keep)
              clear hK K
              try simp only [Act.put, List.setIfInBounds_toArray, List.set_cons_zero, List.set_cons_succ]
              refine wpAnyH_take (i := 7) (oi := { dst := some 55, op := Go.Op.unOp Go.UnOp.not 4 (Go.Operand.tmp 54), type := 4, pos := "law.go:192", after := #[{ on := 6, ground := Go.Ground.data }, { on := 2, ground := Go.Ground.guard }], guard := some (2, false) }) (v := ?_) rfl (by kernel_rfl) (by kernel_rfl) (by kernel_rfl) (fun _ _ _ h => h) (Or.inl ⟨by rfl, ?_⟩) (by assumption) ?_
              rotate_left
              · (intro w hSw; (try dsimp only at hSw); go_simp; try with_reducible rfl)
              rotate_left
              try simp only [Act.put, List.setIfInBounds_toArray, List.set_cons_zero, List.set_cons_succ]
              refine wpAnyH_take (i := 8) (oi := { dst := some 56, op := Go.Op.pick (Go.Operand.tmp 50) (Go.Operand.const (Go.Value.bool true)) (Go.Operand.tmp 55), type := 4, pos := "law.go:192", after := #[{ on := 2, ground := Go.Ground.data }, { on := 7, ground := Go.Ground.data }], guard := none }) (v := ?_) rfl (by kernel_rfl) (by kernel_rfl) (by kernel_rfl) (fun _ _ _ h => h) (Or.inl ⟨by rfl, ?_⟩) (by assumption) ?_
              rotate_left
              · (intro w hSw; (try dsimp only at hSw); go_simp; try with_reducible rfl)
              rotate_left
              try simp only [Act.put, List.setIfInBounds_toArray, List.set_cons_zero, List.set_cons_succ]
              refine wpAnyH_take (i := 9) (oi := { dst := some 57, op := Go.Op.move (Go.Operand.tmp 56), type := 4, pos := "law.go:192", after := #[{ on := 8, ground := Go.Ground.data }, { on := 6, ground := Go.Ground.chain }], guard := none }) (v := ?_) rfl (by kernel_rfl) (by kernel_rfl) (by kernel_rfl) (fun _ _ _ h => h) (Or.inl ⟨by rfl, ?_⟩) (by assumption) ?_
              rotate_left
              · (intro w hSw; (try dsimp only at hSw); go_simp; try with_reducible rfl)
              rotate_left
              try simp only [Act.put, List.setIfInBounds_toArray, List.set_cons_zero, List.set_cons_succ]
              refine wpAnyH_take (i := 10) (oi := { dst := some 58, op := Go.Op.move (Go.Operand.tmp 8), type := 33, pos := "law.go:192", after := #[{ on := 9, ground := Go.Ground.guard }], guard := some (9, false) }) (v := ?_) rfl (by kernel_rfl) (by kernel_rfl) (by kernel_rfl) (fun _ _ _ h => h) (Or.inl ⟨by rfl, ?_⟩) (by assumption) ?_
              rotate_left
              · (intro w hSw; (try dsimp only at hSw); go_simp; try with_reducible rfl)
              rotate_left
              try simp only [Act.put, List.setIfInBounds_toArray, List.set_cons_zero, List.set_cons_succ]
              refine wpAnyH_take (i := 11) (oi := { dst := some 59, op := Go.Op.move (Go.Operand.tmp 5), type := 3, pos := "law.go:192", after := #[{ on := 9, ground := Go.Ground.guard }], guard := some (9, false) }) (v := ?_) rfl (by kernel_rfl) (by kernel_rfl) (by kernel_rfl) (fun _ _ _ h => h) (Or.inl ⟨by rfl, ?_⟩) (by assumption) ?_
              rotate_left
              · (intro w hSw; (try dsimp only at hSw); go_simp; try with_reducible rfl)
              rotate_left
              try simp only [Act.put, List.setIfInBounds_toArray, List.set_cons_zero, List.set_cons_succ]
              refine wpAnyH_ready (rs := [12]) (by kernel_rfl) (by simp) ?_
              refine AllReadyH.cons (o := { dst := some 60, op := Go.Op.buildSlice 33 1 #[(0, Go.Operand.tmp 59)], type := 33, pos := "law.go:192", after := #[{ on := 11, ground := Go.Ground.data }, { on := 9, ground := Go.Ground.guard }], guard := some (9, false) }) rfl (fun K hK => ?_) AllReadyH.nil
              go_simp
              refine hK.out _ _ ?_ (fun hHeld => ?_)
              · (try dsimp only); (first | assumption | go_keep)
              clear hK K
              try simp only [Act.put, List.setIfInBounds_toArray, List.set_cons_zero, List.set_cons_succ]
              refine wpAnyH_ready (rs := [13]) (by kernel_rfl) (by simp) ?_
              refine AllReadyH.cons (o := { dst := some 61, op := Go.Op.call { callee := Go.Callee.value (Go.Operand.func 15), args := #[Go.Operand.tmp 58, Go.Operand.tmp 60], argTypes := #[33, 33] }, type := 4, pos := "law.go:192", after := #[{ on := 10, ground := Go.Ground.data }, { on := 12, ground := Go.Ground.data }, { on := 9, ground := Go.Ground.chain }, { on := 9, ground := Go.Ground.guard }], guard := some (9, false) }) rfl (fun K hK => ?_) AllReadyH.nil
              go_simp
              go_at_call 15; refine (same_ints A2 (some ⟨w4.heap.size, 0, none⟩) 1 1 c2 1 [(k : Int)] [(k : Int)] _ (RB.out.on (b2 HF4.out _)) (read_int2 w4 k) (by omega) (by omega)).mono ?_; rintro e w5 ⟨he, q, hq⟩
              rw [(by simp : ([(k : Int)] == [(k : Int)]) = true)] at he
              subst he
              have HF5 : Hid (Below w2.heap.size w2 w5) := by show Below _ _ _; rw [hq]; exact below_drewN (b2 HF4.out _) q
              clear hq HF4 tok4
              have hs5 := KX2.out _ HF5.out
              have tok5 : True := trivial
              go_wp2_with fail
              refine hK.out _ _ ?_ (fun hHeld => ?_)
              · (try dsimp only); (first | assumption | go_keep)
              clear hK K
              try simp only [Act.put, List.setIfInBounds_toArray, List.set_cons_zero, List.set_cons_succ]
              refine wpAnyH_take (i := 14) (oi := { dst := some 62, op := Go.Op.unOp Go.UnOp.not 4 (Go.Operand.tmp 61), type := 4, pos := "law.go:192", after := #[{ on := 13, ground := Go.Ground.data }, { on := 9, ground := Go.Ground.guard }], guard := some (9, false) }) (v := ?_) rfl (by kernel_rfl) (by kernel_rfl) (by kernel_rfl) (fun _ _ _ h => h) (Or.inl ⟨by rfl, ?_⟩) (by assumption) ?_
              rotate_left
              · (intro w hSw; (try dsimp only at hSw); go_simp; try with_reducible rfl)
              rotate_left
              try simp only [Act.put, List.setIfInBounds_toArray, List.set_cons_zero, List.set_cons_succ]
              refine wpAnyH_take (i := 15) (oi := { dst := some 63, op := Go.Op.pick (Go.Operand.tmp 57) (Go.Operand.const (Go.Value.bool true)) (Go.Operand.tmp 62), type := 4, pos := "law.go:192", after := #[{ on := 9, ground := Go.Ground.data }, { on := 14, ground := Go.Ground.data }], guard := none }) (v := ?_) rfl (by kernel_rfl) (by kernel_rfl) (by kernel_rfl) (fun _ _ _ h => h) (Or.inl ⟨by rfl, ?_⟩) (by assumption) ?_
              rotate_left
              · (intro w hSw; (try dsimp only at hSw); go_simp; try with_reducible rfl)
              rotate_left
              try simp only [Act.put, List.setIfInBounds_toArray, List.set_cons_zero, List.set_cons_succ]
              refine wpAnyH_take (i := 16) (oi := { dst := some 64, op := Go.Op.move (Go.Operand.tmp 63), type := 4, pos := "law.go:192", after := #[{ on := 15, ground := Go.Ground.data }, { on := 13, ground := Go.Ground.chain }], guard := none }) (v := ?_) rfl (by kernel_rfl) (by kernel_rfl) (by kernel_rfl) (fun _ _ _ h => h) (Or.inl ⟨by rfl, ?_⟩) (by assumption) ?_
              rotate_left
              · (intro w hSw; (try dsimp only at hSw); go_simp; try with_reducible rfl)
              rotate_left
              try simp only [Act.put, List.setIfInBounds_toArray, List.set_cons_zero, List.set_cons_succ]
              refine wpAnyH_take (i := 17) (oi := { dst := some 65, op := Go.Op.move (Go.Operand.tmp 3), type := 41, pos := "law.go:192", after := #[{ on := 16, ground := Go.Ground.guard }], guard := some (16, false) }) (v := ?_) rfl (by kernel_rfl) (by kernel_rfl) (by kernel_rfl) (fun _ _ _ h => h) (Or.inl ⟨by rfl, ?_⟩) (by assumption) ?_
              rotate_left
              · (intro w hSw; (try dsimp only at hSw); go_simp; try with_reducible rfl)
              rotate_left
              try simp only [Act.put, List.setIfInBounds_toArray, List.set_cons_zero, List.set_cons_succ]
              refine wpAnyH_take (i := 18) (oi := { dst := some 66, op := Go.Op.call { callee := Go.Callee.builtin Go.Builtin.len, args := #[Go.Operand.tmp 65], argTypes := #[41] }, type := 3, pos := "law.go:192", after := #[{ on := 17, ground := Go.Ground.data }, { on := 16, ground := Go.Ground.guard }], guard := some (16, false) }) (v := ?_) rfl (by kernel_rfl) (by kernel_rfl) (by kernel_rfl) (fun _ _ _ h => h) (Or.inl ⟨by rfl, ?_⟩) (by assumption) ?_
              rotate_left
              · (intro w hSw; (try dsimp only at hSw); go_simp; try with_reducible rfl)
              rotate_left
              try simp only [Act.put, List.setIfInBounds_toArray, List.set_cons_zero, List.set_cons_succ]
              refine wpAnyH_take (i := 19) (oi := { dst := some 67, op := Go.Op.binOp Go.BinOp.gtr 3 (Go.Operand.tmp 66) (Go.Operand.const (Go.Value.int Go.IntKind.i64 0)) 3, type := 4, pos := "law.go:192", after := #[{ on := 18, ground := Go.Ground.data }, { on := 16, ground := Go.Ground.guard }], guard := some (16, false) }) (v := ?_) rfl (by kernel_rfl) (by kernel_rfl) (by kernel_rfl) (fun _ _ _ h => h) (Or.inl ⟨by rfl, ?_⟩) (by assumption) ?_
              rotate_left
              · (intro w hSw; (try dsimp only at hSw); go_simp; try with_reducible rfl)
              rotate_left
              try simp only [Act.put, List.setIfInBounds_toArray, List.set_cons_zero, List.set_cons_succ]
              refine wpAnyH_take (i := 20) (oi := { dst := some 68, op := Go.Op.move (Go.Operand.tmp 67), type := 4, pos := "law.go:192", after := #[{ on := 19, ground := Go.Ground.data }, { on := 16, ground := Go.Ground.chain }, { on := 16, ground := Go.Ground.guard }], guard := some (16, false) }) (v := ?_) rfl (by kernel_rfl) (by kernel_rfl) (by kernel_rfl) (fun _ _ _ h => h) (Or.inl ⟨by rfl, ?_⟩) (by assumption) ?_
              rotate_left
              · (intro w hSw; (try dsimp only at hSw); go_simp; try with_reducible rfl)
              rotate_left
              try simp only [Act.put, List.setIfInBounds_toArray, List.set_cons_zero, List.set_cons_succ]
              refine wpAnyH_take (i := 21) (oi := { dst := some 69, op := Go.Op.fieldAddr 30 (Go.Operand.tmp 1) 1, type := 0, pos := "law.go:192", after := #[{ on := 20, ground := Go.Ground.guard }], guard := some (20, true) }) (v := undef) rfl (by kernel_rfl) (by kernel_rfl) (by kernel_rfl) (fun _ _ _ h => h) (Or.inr ⟨by rfl, rfl⟩) (by assumption) ?_
              try simp only [Act.put, List.setIfInBounds_toArray, List.set_cons_zero, List.set_cons_succ]
              refine wpAnyH_take (i := 22) (oi := { dst := some 70, op := Go.Op.load 28 (Go.Operand.tmp 69), type := 28, pos := "law.go:192", after := #[{ on := 21, ground := Go.Ground.data }, { on := 20, ground := Go.Ground.guard }], guard := some (20, true) }) (v := undef) rfl (by kernel_rfl) (by kernel_rfl) (by kernel_rfl) (fun _ _ _ h => h) (Or.inr ⟨by rfl, rfl⟩) (by assumption) ?_
              try simp only [Act.put, List.setIfInBounds_toArray, List.set_cons_zero, List.set_cons_succ]
              refine wpAnyH_take (i := 23) (oi := { dst := some 71, op := Go.Op.move (Go.Operand.tmp 3), type := 41, pos := "law.go:192", after := #[{ on := 20, ground := Go.Ground.guard }], guard := some (20, true) }) (v := undef) rfl (by kernel_rfl) (by kernel_rfl) (by kernel_rfl) (fun _ _ _ h => h) (Or.inr ⟨by rfl, rfl⟩) (by assumption) ?_
              try simp only [Act.put, List.setIfInBounds_toArray, List.set_cons_zero, List.set_cons_succ]
              refine wpAnyH_take (i := 24) (oi := { dst := some 72, op := Go.Op.move (Go.Operand.tmp 3), type := 41, pos := "law.go:192", after := #[{ on := 20, ground := Go.Ground.guard }], guard := some (20, true) }) (v := undef) rfl (by kernel_rfl) (by kernel_rfl) (by kernel_rfl) (fun _ _ _ h => h) (Or.inr ⟨by rfl, rfl⟩) (by assumption) ?_
              try simp only [Act.put, List.setIfInBounds_toArray, List.set_cons_zero, List.set_cons_succ]
              refine wpAnyH_take (i := 25) (oi := { dst := some 73, op := Go.Op.call { callee := Go.Callee.builtin Go.Builtin.len, args := #[Go.Operand.tmp 72], argTypes := #[41] }, type := 3, pos := "law.go:192", after := #[{ on := 24, ground := Go.Ground.data }, { on := 20, ground := Go.Ground.guard }], guard := some (20, true) }) (v := undef) rfl (by kernel_rfl) (by kernel_rfl) (by kernel_rfl) (fun _ _ _ h => h) (Or.inr ⟨by rfl, rfl⟩) (by assumption) ?_
              try simp only [Act.put, List.setIfInBounds_toArray, List.set_cons_zero, List.set_cons_succ]
              refine wpAnyH_take (i := 26) (oi := { dst := some 74, op := Go.Op.binOp Go.BinOp.sub 3 (Go.Operand.tmp 73) (Go.Operand.const (Go.Value.int Go.IntKind.i64 1)) 3, type := 3, pos := "law.go:192", after := #[{ on := 25, ground := Go.Ground.data }, { on := 20, ground := Go.Ground.guard }], guard := some (20, true) }) (v := undef) rfl (by kernel_rfl) (by kernel_rfl) (by kernel_rfl) (fun _ _ _ h => h) (Or.inr ⟨by rfl, rfl⟩) (by assumption) ?_
              try simp only [Act.put, List.setIfInBounds_toArray, List.set_cons_zero, List.set_cons_succ]
              refine wpAnyH_take (i := 27) (oi := { dst := some 75, op := Go.Op.indexAddr 41 (Go.Operand.tmp 71) (Go.Operand.tmp 74), type := 0, pos := "law.go:192", after := #[{ on := 23, ground := Go.Ground.data }, { on := 26, ground := Go.Ground.data }, { on := 20, ground := Go.Ground.guard }], guard := some (20, true) }) (v := undef) rfl (by kernel_rfl) (by kernel_rfl) (by kernel_rfl) (fun _ _ _ h => h) (Or.inr ⟨by rfl, rfl⟩) (by assumption) ?_
              try simp only [Act.put, List.setIfInBounds_toArray, List.set_cons_zero, List.set_cons_succ]
              refine wpAnyH_take (i := 28) (oi := { dst := some 76, op := Go.Op.load 9 (Go.Operand.tmp 75), type := 9, pos := "law.go:192", after := #[{ on := 27, ground := Go.Ground.data }, { on := 20, ground := Go.Ground.guard }], guard := some (20, true) }) (v := undef) rfl (by kernel_rfl) (by kernel_rfl) (by kernel_rfl) (fun _ _ _ h => h) (Or.inr ⟨by rfl, rfl⟩) (by assumption) ?_
              try simp only [Act.put, List.setIfInBounds_toArray, List.set_cons_zero, List.set_cons_succ]
              refine wpAnyH_take (i := 29) (oi := { dst := some 77, op := Go.Op.move (Go.Operand.tmp 6), type := 9, pos := "law.go:192", after := #[{ on := 20, ground := Go.Ground.guard }], guard := some (20, true) }) (v := undef) rfl (by kernel_rfl) (by kernel_rfl) (by kernel_rfl) (fun _ _ _ h => h) (Or.inr ⟨by rfl, rfl⟩) (by assumption) ?_
              try simp only [Act.put, List.setIfInBounds_toArray, List.set_cons_zero, List.set_cons_succ]
              refine wpAnyH_take (i := 30) (oi := { dst := some 78, op := Go.Op.call { callee := Go.Callee.value (Go.Operand.func 18), args := #[Go.Operand.tmp 70, Go.Operand.tmp 76, Go.Operand.tmp 77], argTypes := #[28, 9, 9] }, type := 3, pos := "law.go:192", after := #[{ on := 22, ground := Go.Ground.data }, { on := 28, ground := Go.Ground.data }, { on := 29, ground := Go.Ground.data }, { on := 20, ground := Go.Ground.chain }, { on := 20, ground := Go.Ground.guard }], guard := some (20, true) }) (v := undef) rfl (by kernel_rfl) (by kernel_rfl) (by kernel_rfl) (fun _ _ _ h => h) (Or.inr ⟨by rfl, rfl⟩) (by assumption) ?_
              try simp only [Act.put, List.setIfInBounds_toArray, List.set_cons_zero, List.set_cons_succ]
              refine wpAnyH_take (i := 31) (oi := { dst := some 79, op := Go.Op.binOp Go.BinOp.neq 3 (Go.Operand.tmp 78) (Go.Operand.const (Go.Value.int Go.IntKind.i64 (-1))) 3, type := 4, pos := "law.go:192", after := #[{ on := 30, ground := Go.Ground.data }, { on := 20, ground := Go.Ground.guard }], guard := some (20, true) }) (v := undef) rfl (by kernel_rfl) (by kernel_rfl) (by kernel_rfl) (fun _ _ _ h => h) (Or.inr ⟨by rfl, rfl⟩) (by assumption) ?_
              try simp only [Act.put, List.setIfInBounds_toArray, List.set_cons_zero, List.set_cons_succ]
              refine wpAnyH_take (i := 32) (oi := { dst := some 80, op := Go.Op.pick (Go.Operand.tmp 68) (Go.Operand.tmp 79) (Go.Operand.const (Go.Value.bool false)), type := 4, pos := "law.go:192", after := #[{ on := 20, ground := Go.Ground.data }, { on := 31, ground := Go.Ground.data }, { on := 16, ground := Go.Ground.guard }], guard := some (16, false) }) (v := ?_) rfl (by kernel_rfl) (by kernel_rfl) (by kernel_rfl) (fun _ _ _ h => h) (Or.inl ⟨by rfl, ?_⟩) (by assumption) ?_
              rotate_left
              · (intro w hSw; (try dsimp only at hSw); go_simp; try with_reducible rfl)
              rotate_left
              try simp only [Act.put, List.setIfInBounds_toArray, List.set_cons_zero, List.set_cons_succ]
              refine wpAnyH_take (i := 33) (oi := { dst := some 81, op := Go.Op.pick (Go.Operand.tmp 64) (Go.Operand.const (Go.Value.bool true)) (Go.Operand.tmp 80), type := 4, pos := "law.go:192", after := #[{ on := 16, ground := Go.Ground.data }, { on := 32, ground := Go.Ground.data }], guard := none }) (v := ?_) rfl (by kernel_rfl) (by kernel_rfl) (by kernel_rfl) (fun _ _ _ h => h) (Or.inl ⟨by rfl, ?_⟩) (by assumption) ?_
              rotate_left
              · (intro w hSw; (try dsimp only at hSw); go_simp; try with_reducible rfl)
              rotate_left
              try simp only [Act.put, List.setIfInBounds_toArray, List.set_cons_zero, List.set_cons_succ]
              refine wpAnyH_done (by kernel_rfl) ?_ _
              refine NoPanic.normal ?_
              have HBF : Hid (Below w1.heap.size w1 w5) := HB2.out.trans (HF5.out.mono HB2.out.size)
              have HOF := Lib.hid (own_below HO2.out HF5.out)
              clear hs4 hs5 tok5 hj0 hj0n hx2 HO2 RO2 RA RB
              have hszf : w1.heap.size ≤ w5.heap.size := HBF.out.size
              go_wp2_with (at_builtin; refine wpList_app1 rfl (.tmp 82) (.tmp 84) _ rfl w1.heap.size 9 16 _ info_string rfl Try.underlying41 rfl HOF.out rfl rfl (by omega) (by omega) hszf ?_; rintro v7 w7 hown7 hb7 hs7 hk7; clear hk7)
              have HO7 : Hid (w7.ownsRow w1.heap.size 9 1 v7 (ys ++ [v]).length ((ys ++ [v]).map .string)) := by
                show World.ownsRow _ _ _ _ _ _ _
                rw [List.length_append, HM.out, List.map_append]
                exact hown7
              have HC7 : Hid (Coll L i (k + 1) (ys ++ [v])) := by
                have := HC.out.snoc HIL.out HKL.out
                rw [HV.out] at this
                exact this
              have HB7 : Hid (Below w1.heap.size w1 w7) := HBF.out.trans hb7
              clear hown7 hb7 hs7
              go_roundw
              case rel => exact ⟨k + 1, _, by omega, by go_num, HO7, HC7, HB7⟩
              case measure => simp [intOf]; omega
            · obtain ⟨j, hij⟩ : ∃ j, m = j + 1 := ⟨m - 1, by omega⟩
              obtain ⟨ado, uy, rfl, ly1', huy, hcy⟩ := RO2.out.at_ (k := j) (by omega)
              obtain ⟨y, hy, hah⟩ := HC.out.2 (by rw [HM.out]; omega)
              rw [HM.out, hij, Nat.add_sub_cancel] at hy
              have ez : uy = .string y := by simpa [hy] using huy.symm
              subst ez
              have hys : y.size ≤ 100 := hah.size hrb.out
              have hcm : cmpS L y.data.toList v.data.toList = -1 := by
                have := hah.cmp hrb.out HIL.out HKL.out
                rw [HV.out] at this
                exact this
              have ly : (ado.add j).block < w2.heap.size := by rw [block_of_add]; exact ly1'
              have hcy2 : w2.cell? (ado.add j) = some (.string y) := hcy
              have KC : Hid (∀ W, Below w2.heap.size w2 W → Calls Try.prog 18 #[.agg #[.string nm, .slice UA un uc, .slice (some adl) ln lc], .string y, .string v] W fun e w' => e = .returned (.int .i64 (-1)) ∧ Below W.heap.size W w') := fun W hW =>
                mono_eq (compare_any nm UA (some adl) un uc ln lc L y v W W.heap.size (KL.out _ (HB2.out.trans (hW.mono HB2.out.size))) (Nat.le_refl _) HSZ.out (by omega) (by omega)) (by rw [hcm])
              have hj0 : decide ((0 : Int) < (m : Int)) = true := decide_eq_true (by omega)
              have hj0n : decide (0 < m) = true := decide_eq_true (by omega)
              have hj1 : wrap64 ((m : Int) - 1) = (j : Int) := by unfold wrap64; omega
              have hj2 : (m : Int) - 1 = (j : Int) := by omega
              have hj5 : IntKind.i64.wrap ((m : Int) - 1) = (j : Int) := by rw [hj2]; exact IntWalk.i64_in _ (by omega)
              have hj3 : m - 1 = j := by omega
              have hj4 : ((m : Int) - 1).toNat = j := by omega
              have hjn : (j : Int) < (m : Int) := by omega
              have hjn' : j < m := by omega
              have hjA : (0 : Int) ≤ (j : Int) := by omega
              have hjF : IntKind.i64.wrap (j : Int) = (j : Int) := IntWalk.i64_in _ (by omega)
              have hjB : (0 : Int) ≤ (m : Int) - 1 := by omega
              have hjC : (m : Int) - 1 < (m : Int) := by omega
              have hjD : (1 : Int) ≤ (m : Int) := by omega
              have hjE : 1 ≤ m := by omega
              clear huy hij hm0 hy hah hcm
              go_wp2_with fail
              refine wp_region_noPanic ?_
              refine wp_region_held_drew (S := fun w' => w'.cell? ⟨w.heap.size, 1, none⟩ = some (.string nm) ∧ w'.cell? ⟨w.heap.size, 2, none⟩ = some (.slice UA un uc) ∧ w'.cell? ⟨w.heap.size, 3, none⟩ = some (.slice (some adl) ln lc) ∧ w'.cell? (ado.add j) = some (.string y)) (by kernel_rfl) ?_ (fun hHeld => ?_)
              · (try dsimp only); (first | assumption | go_keep)
              refine wpAnyH_take (i := 0) (oi := { dst := some 48, op := Go.Op.move (Go.Operand.tmp 9), type := 4, pos := "law.go:192", after := #[], guard := none }) (v := ?_) rfl (by kernel_rfl) (by kernel_rfl) (by kernel_rfl) (fun _ _ _ h => h) (Or.inl ⟨by rfl, ?_⟩) (by assumption) ?_
              rotate_left
              · (intro w hSw; (try dsimp only at hSw); go_simp; try with_reducible rfl)
              rotate_left
              try simp only [Act.put, List.setIfInBounds_toArray, List.set_cons_zero, List.set_cons_succ]
              refine wpAnyH_take (i := 1) (oi := { dst := some 49, op := Go.Op.unOp Go.UnOp.not 4 (Go.Operand.tmp 48), type := 4, pos := "law.go:192", after := #[{ on := 0, ground := Go.Ground.data }], guard := none }) (v := ?_) rfl (by kernel_rfl) (by kernel_rfl) (by kernel_rfl) (fun _ _ _ h => h) (Or.inl ⟨by rfl, ?_⟩) (by assumption) ?_
              rotate_left
              · (intro w hSw; (try dsimp only at hSw); go_simp; try with_reducible rfl)
              rotate_left
              try simp only [Act.put, List.setIfInBounds_toArray, List.set_cons_zero, List.set_cons_succ]
              refine wpAnyH_take (i := 2) (oi := { dst := some 50, op := Go.Op.move (Go.Operand.tmp 49), type := 4, pos := "law.go:192", after := #[{ on := 1, ground := Go.Ground.data }], guard := none }) (v := ?_) rfl (by kernel_rfl) (by kernel_rfl) (by kernel_rfl) (fun _ _ _ h => h) (Or.inl ⟨by rfl, ?_⟩) (by assumption) ?_
              rotate_left
              · (intro w hSw; (try dsimp only at hSw); go_simp; try with_reducible rfl)
              rotate_left
              try simp only [Act.put, List.setIfInBounds_toArray, List.set_cons_zero, List.set_cons_succ]
              refine wpAnyH_take (i := 3) (oi := { dst := some 51, op := Go.Op.move (Go.Operand.tmp 7), type := 33, pos := "law.go:192", after := #[{ on := 2, ground := Go.Ground.guard }], guard := some (2, false) }) (v := ?_) rfl (by kernel_rfl) (by kernel_rfl) (by kernel_rfl) (fun _ _ _ h => h) (Or.inl ⟨by rfl, ?_⟩) (by assumption) ?_
              rotate_left
              · (intro w hSw; (try dsimp only at hSw); go_simp; try with_reducible rfl)
              rotate_left
              try simp only [Act.put, List.setIfInBounds_toArray, List.set_cons_zero, List.set_cons_succ]
              refine wpAnyH_take (i := 4) (oi := { dst := some 52, op := Go.Op.move (Go.Operand.tmp 4), type := 3, pos := "law.go:192", after := #[{ on := 2, ground := Go.Ground.guard }], guard := some (2, false) }) (v := ?_) rfl (by kernel_rfl) (by kernel_rfl) (by kernel_rfl) (fun _ _ _ h => h) (Or.inl ⟨by rfl, ?_⟩) (by assumption) ?_
              rotate_left
              · (intro w hSw; (try dsimp only at hSw); go_simp; try with_reducible rfl)
              rotate_left
              try simp only [Act.put, List.setIfInBounds_toArray, List.set_cons_zero, List.set_cons_succ]
              refine wpAnyH_ready (rs := [5]) (by kernel_rfl) (by simp) ?_
              refine AllReadyH.cons (o := { dst := some 53, op := Go.Op.buildSlice 33 1 #[(0, Go.Operand.tmp 52)], type := 33, pos := "law.go:192", after := #[{ on := 4, ground := Go.Ground.data }, { on := 2, ground := Go.Ground.guard }], guard := some (2, false) }) rfl (fun K hK => ?_) AllReadyH.nil
              go_simp
              refine hK.out _ _ ?_ (fun hHeld => ?_)
              · (try dsimp only); (first | assumption | go_keep)
              clear hK K
              try simp only [Act.put, List.setIfInBounds_toArray, List.set_cons_zero, List.set_cons_succ]
              refine wpAnyH_ready (rs := [6]) (by kernel_rfl) (by simp) ?_
              refine AllReadyH.cons (o := { dst := some 54, op := Go.Op.call { callee := Go.Callee.value (Go.Operand.func 15), args := #[Go.Operand.tmp 51, Go.Operand.tmp 53], argTypes := #[33, 33] }, type := 4, pos := "law.go:192", after := #[{ on := 3, ground := Go.Ground.data }, { on := 5, ground := Go.Ground.data }, { on := 2, ground := Go.Ground.chain }, { on := 2, ground := Go.Ground.guard }], guard := some (2, false) }) rfl (fun K hK => ?_) AllReadyH.nil
              go_simp
              go_at_call 15; refine (same_ints A1 (some ⟨w2.heap.size, 0, none⟩) 1 1 c1 1 [(i : Int)] [(i : Int)] _ (RA.out.on (b1 _ _)) (read_int w2 i) (by omega) (by omega)).mono ?_; rintro e w4 ⟨he, q, hq⟩
              rw [(by simp : ([(i : Int)] == [(i : Int)]) = true)] at he
              subst he
              have HF4 : Hid (Below w2.heap.size w2 w4) := by show Below _ _ _; rw [hq]; exact below_drewN (b1 _ _) q
              clear hq
              have hs4 := KX2.out _ HF4.out
              have hy4 : w4.cell? (ado.add j) = some (.string y) := (HF4.out.cell ly).trans hcy
              have tok4 : True := trivial
              go_wp2_with fail
              refine hK.out _ _ ?_ (fun hHeld => ?_)
              · (try dsimp only); (first | assumption | go_keep)
              clear hK K
              try simp only [Act.put, List.setIfInBounds_toArray, List.set_cons_zero, List.set_cons_succ]
              refine wpAnyH_take (i := 7) (oi := { dst := some 55, op := Go.Op.unOp Go.UnOp.not 4 (Go.Operand.tmp 54), type := 4, pos := "law.go:192", after := #[{ on := 6, ground := Go.Ground.data }, { on := 2, ground := Go.Ground.guard }], guard := some (2, false) }) (v := ?_) rfl (by kernel_rfl) (by kernel_rfl) (by kernel_rfl) (fun _ _ _ h => h) (Or.inl ⟨by rfl, ?_⟩) (by assumption) ?_
              rotate_left
              · (intro w hSw; (try dsimp only at hSw); go_simp; try with_reducible rfl)
              rotate_left
              try simp only [Act.put, List.setIfInBounds_toArray, List.set_cons_zero, List.set_cons_succ]
              refine wpAnyH_take (i := 8) (oi := { dst := some 56, op := Go.Op.pick (Go.Operand.tmp 50) (Go.Operand.const (Go.Value.bool true)) (Go.Operand.tmp 55), type := 4, pos := "law.go:192", after := #[{ on := 2, ground := Go.Ground.data }, { on := 7, ground := Go.Ground.data }], guard := none }) (v := ?_) rfl (by kernel_rfl) (by kernel_rfl) (by kernel_rfl) (fun _ _ _ h => h) (Or.inl ⟨by rfl, ?_⟩) (by assumption) ?_
              rotate_left
              · (intro w hSw; (try dsimp only at hSw); go_simp; try with_reducible rfl)
              rotate_left
              try simp only [Act.put, List.setIfInBounds_toArray, List.set_cons_zero, List.set_cons_succ]
              refine wpAnyH_take (i := 9) (oi := { dst := some 57, op := Go.Op.move (Go.Operand.tmp 56), type := 4, pos := "law.go:192", after := #[{ on := 8, ground := Go.Ground.data }, { on := 6, ground := Go.Ground.chain }], guard := none }) (v := ?_) rfl (by kernel_rfl) (by kernel_rfl) (by kernel_rfl) (fun _ _ _ h => h) (Or.inl ⟨by rfl, ?_⟩) (by assumption) ?_
              rotate_left
              · (intro w hSw; (try dsimp only at hSw); go_simp; try with_reducible rfl)
              rotate_left
              try simp only [Act.put, List.setIfInBounds_toArray, List.set_cons_zero, List.set_cons_succ]
              refine wpAnyH_take (i := 10) (oi := { dst := some 58, op := Go.Op.move (Go.Operand.tmp 8), type := 33, pos := "law.go:192", after := #[{ on := 9, ground := Go.Ground.guard }], guard := some (9, false) }) (v := ?_) rfl (by kernel_rfl) (by kernel_rfl) (by kernel_rfl) (fun _ _ _ h => h) (Or.inl ⟨by rfl, ?_⟩) (by assumption) ?_
              rotate_left
              · (intro w hSw; (try dsimp only at hSw); go_simp; try with_reducible rfl)
              rotate_left
              try simp only [Act.put, List.setIfInBounds_toArray, List.set_cons_zero, List.set_cons_succ]
              refine wpAnyH_take (i := 11) (oi := { dst := some 59, op := Go.Op.move (Go.Operand.tmp 5), type := 3, pos := "law.go:192", after := #[{ on := 9, ground := Go.Ground.guard }], guard := some (9, false) }) (v := ?_) rfl (by kernel_rfl) (by kernel_rfl) (by kernel_rfl) (fun _ _ _ h => h) (Or.inl ⟨by rfl, ?_⟩) (by assumption) ?_
              rotate_left
              · (intro w hSw; (try dsimp only at hSw); go_simp; try with_reducible rfl)
              rotate_left
              try simp only [Act.put, List.setIfInBounds_toArray, List.set_cons_zero, List.set_cons_succ]
              refine wpAnyH_ready (rs := [12]) (by kernel_rfl) (by simp) ?_
              refine AllReadyH.cons (o := { dst := some 60, op := Go.Op.buildSlice 33 1 #[(0, Go.Operand.tmp 59)], type := 33, pos := "law.go:192", after := #[{ on := 11, ground := Go.Ground.data }, { on := 9, ground := Go.Ground.guard }], guard := some (9, false) }) rfl (fun K hK => ?_) AllReadyH.nil
              go_simp
              refine hK.out _ _ ?_ (fun hHeld => ?_)
              · (try dsimp only); (first | assumption | go_keep)
              clear hK K
              try simp only [Act.put, List.setIfInBounds_toArray, List.set_cons_zero, List.set_cons_succ]
              refine wpAnyH_ready (rs := [13]) (by kernel_rfl) (by simp) ?_
              refine AllReadyH.cons (o := { dst := some 61, op := Go.Op.call { callee := Go.Callee.value (Go.Operand.func 15), args := #[Go.Operand.tmp 58, Go.Operand.tmp 60], argTypes := #[33, 33] }, type := 4, pos := "law.go:192", after := #[{ on := 10, ground := Go.Ground.data }, { on := 12, ground := Go.Ground.data }, { on := 9, ground := Go.Ground.chain }, { on := 9, ground := Go.Ground.guard }], guard := some (9, false) }) rfl (fun K hK => ?_) AllReadyH.nil
              go_simp
              go_at_call 15; refine (same_ints A2 (some ⟨w4.heap.size, 0, none⟩) 1 1 c2 1 [(k : Int)] [(k : Int)] _ (RB.out.on (b2 HF4.out _)) (read_int2 w4 k) (by omega) (by omega)).mono ?_; rintro e w5 ⟨he, q, hq⟩
              rw [(by simp : ([(k : Int)] == [(k : Int)]) = true)] at he
              subst he
              have HF5 : Hid (Below w2.heap.size w2 w5) := by show Below _ _ _; rw [hq]; exact below_drewN (b2 HF4.out _) q
              clear hq HF4 tok4
              have hs5 := KX2.out _ HF5.out
              have hy5 : w5.cell? (ado.add j) = some (.string y) := (HF5.out.cell ly).trans hcy
              have tok5 : True := trivial
              go_wp2_with fail
              refine hK.out _ _ ?_ (fun hHeld => ?_)
              · (try dsimp only); (first | assumption | go_keep)
              clear hK K
              try simp only [Act.put, List.setIfInBounds_toArray, List.set_cons_zero, List.set_cons_succ]
              refine wpAnyH_take (i := 14) (oi := { dst := some 62, op := Go.Op.unOp Go.UnOp.not 4 (Go.Operand.tmp 61), type := 4, pos := "law.go:192", after := #[{ on := 13, ground := Go.Ground.data }, { on := 9, ground := Go.Ground.guard }], guard := some (9, false) }) (v := ?_) rfl (by kernel_rfl) (by kernel_rfl) (by kernel_rfl) (fun _ _ _ h => h) (Or.inl ⟨by rfl, ?_⟩) (by assumption) ?_
              rotate_left
              · (intro w hSw; (try dsimp only at hSw); go_simp; try with_reducible rfl)
              rotate_left
              try simp only [Act.put, List.setIfInBounds_toArray, List.set_cons_zero, List.set_cons_succ]
              refine wpAnyH_take (i := 15) (oi := { dst := some 63, op := Go.Op.pick (Go.Operand.tmp 57) (Go.Operand.const (Go.Value.bool true)) (Go.Operand.tmp 62), type := 4, pos := "law.go:192", after := #[{ on := 9, ground := Go.Ground.data }, { on := 14, ground := Go.Ground.data }], guard := none }) (v := ?_) rfl (by kernel_rfl) (by kernel_rfl) (by kernel_rfl) (fun _ _ _ h => h) (Or.inl ⟨by rfl, ?_⟩) (by assumption) ?_
              rotate_left
              · (intro w hSw; (try dsimp only at hSw); go_simp; try with_reducible rfl)
              rotate_left
              try simp only [Act.put, List.setIfInBounds_toArray, List.set_cons_zero, List.set_cons_succ]
              refine wpAnyH_take (i := 16) (oi := { dst := some 64, op := Go.Op.move (Go.Operand.tmp 63), type := 4, pos := "law.go:192", after := #[{ on := 15, ground := Go.Ground.data }, { on := 13, ground := Go.Ground.chain }], guard := none }) (v := ?_) rfl (by kernel_rfl) (by kernel_rfl) (by kernel_rfl) (fun _ _ _ h => h) (Or.inl ⟨by rfl, ?_⟩) (by assumption) ?_
              rotate_left
              · (intro w hSw; (try dsimp only at hSw); go_simp; try with_reducible rfl)
              rotate_left
              try simp only [Act.put, List.setIfInBounds_toArray, List.set_cons_zero, List.set_cons_succ]
              refine wpAnyH_take (i := 17) (oi := { dst := some 65, op := Go.Op.move (Go.Operand.tmp 3), type := 41, pos := "law.go:192", after := #[{ on := 16, ground := Go.Ground.guard }], guard := some (16, false) }) (v := ?_) rfl (by kernel_rfl) (by kernel_rfl) (by kernel_rfl) (fun _ _ _ h => h) (Or.inl ⟨by rfl, ?_⟩) (by assumption) ?_
              rotate_left
              · (intro w hSw; (try dsimp only at hSw); go_simp; try with_reducible rfl)
              rotate_left
              try simp only [Act.put, List.setIfInBounds_toArray, List.set_cons_zero, List.set_cons_succ]
              refine wpAnyH_take (i := 18) (oi := { dst := some 66, op := Go.Op.call { callee := Go.Callee.builtin Go.Builtin.len, args := #[Go.Operand.tmp 65], argTypes := #[41] }, type := 3, pos := "law.go:192", after := #[{ on := 17, ground := Go.Ground.data }, { on := 16, ground := Go.Ground.guard }], guard := some (16, false) }) (v := ?_) rfl (by kernel_rfl) (by kernel_rfl) (by kernel_rfl) (fun _ _ _ h => h) (Or.inl ⟨by rfl, ?_⟩) (by assumption) ?_
              rotate_left
              · (intro w hSw; (try dsimp only at hSw); go_simp; try with_reducible rfl)
              rotate_left
              try simp only [Act.put, List.setIfInBounds_toArray, List.set_cons_zero, List.set_cons_succ]
              refine wpAnyH_take (i := 19) (oi := { dst := some 67, op := Go.Op.binOp Go.BinOp.gtr 3 (Go.Operand.tmp 66) (Go.Operand.const (Go.Value.int Go.IntKind.i64 0)) 3, type := 4, pos := "law.go:192", after := #[{ on := 18, ground := Go.Ground.data }, { on := 16, ground := Go.Ground.guard }], guard := some (16, false) }) (v := ?_) rfl (by kernel_rfl) (by kernel_rfl) (by kernel_rfl) (fun _ _ _ h => h) (Or.inl ⟨by rfl, ?_⟩) (by assumption) ?_
              rotate_left
              · (intro w hSw; (try dsimp only at hSw); go_simp; try with_reducible rfl)
              rotate_left
              try simp only [Act.put, List.setIfInBounds_toArray, List.set_cons_zero, List.set_cons_succ]
              refine wpAnyH_take (i := 20) (oi := { dst := some 68, op := Go.Op.move (Go.Operand.tmp 67), type := 4, pos := "law.go:192", after := #[{ on := 19, ground := Go.Ground.data }, { on := 16, ground := Go.Ground.chain }, { on := 16, ground := Go.Ground.guard }], guard := some (16, false) }) (v := ?_) rfl (by kernel_rfl) (by kernel_rfl) (by kernel_rfl) (fun _ _ _ h => h) (Or.inl ⟨by rfl, ?_⟩) (by assumption) ?_
              rotate_left
              · (intro w hSw; (try dsimp only at hSw); go_simp; try with_reducible rfl)
              rotate_left
              try simp only [Act.put, List.setIfInBounds_toArray, List.set_cons_zero, List.set_cons_succ]
              refine wpAnyH_take (i := 21) (oi := { dst := some 69, op := Go.Op.fieldAddr 30 (Go.Operand.tmp 1) 1, type := 0, pos := "law.go:192", after := #[{ on := 20, ground := Go.Ground.guard }], guard := some (20, true) }) (v := ?_) rfl (by kernel_rfl) (by kernel_rfl) (by kernel_rfl) (fun _ _ _ h => h) (Or.inl ⟨by rfl, ?_⟩) (by assumption) ?_
              rotate_left
              · (intro w hSw; (try dsimp only at hSw); go_simp; try with_reducible rfl)
              rotate_left
              try simp only [Act.put, List.setIfInBounds_toArray, List.set_cons_zero, List.set_cons_succ]
              refine wpAnyH_take (i := 22) (oi := { dst := some 70, op := Go.Op.load 28 (Go.Operand.tmp 69), type := 28, pos := "law.go:192", after := #[{ on := 21, ground := Go.Ground.data }, { on := 20, ground := Go.Ground.guard }], guard := some (20, true) }) (v := ?_) rfl (by kernel_rfl) (by kernel_rfl) (by kernel_rfl) (fun _ _ _ h => h) (Or.inl ⟨by rfl, ?_⟩) (by assumption) ?_
              rotate_left
              · (intro w hSw; (try dsimp only at hSw); go_simp; try with_reducible rfl)
              rotate_left
              try simp only [Act.put, List.setIfInBounds_toArray, List.set_cons_zero, List.set_cons_succ]
              refine wpAnyH_take (i := 23) (oi := { dst := some 71, op := Go.Op.move (Go.Operand.tmp 3), type := 41, pos := "law.go:192", after := #[{ on := 20, ground := Go.Ground.guard }], guard := some (20, true) }) (v := ?_) rfl (by kernel_rfl) (by kernel_rfl) (by kernel_rfl) (fun _ _ _ h => h) (Or.inl ⟨by rfl, ?_⟩) (by assumption) ?_
              rotate_left
              · (intro w hSw; (try dsimp only at hSw); go_simp; try with_reducible rfl)
              rotate_left
              try simp only [Act.put, List.setIfInBounds_toArray, List.set_cons_zero, List.set_cons_succ]
              refine wpAnyH_take (i := 24) (oi := { dst := some 72, op := Go.Op.move (Go.Operand.tmp 3), type := 41, pos := "law.go:192", after := #[{ on := 20, ground := Go.Ground.guard }], guard := some (20, true) }) (v := ?_) rfl (by kernel_rfl) (by kernel_rfl) (by kernel_rfl) (fun _ _ _ h => h) (Or.inl ⟨by rfl, ?_⟩) (by assumption) ?_
              rotate_left
              · (intro w hSw; (try dsimp only at hSw); go_simp; try with_reducible rfl)
              rotate_left
              try simp only [Act.put, List.setIfInBounds_toArray, List.set_cons_zero, List.set_cons_succ]
              refine wpAnyH_take (i := 25) (oi := { dst := some 73, op := Go.Op.call { callee := Go.Callee.builtin Go.Builtin.len, args := #[Go.Operand.tmp 72], argTypes := #[41] }, type := 3, pos := "law.go:192", after := #[{ on := 24, ground := Go.Ground.data }, { on := 20, ground := Go.Ground.guard }], guard := some (20, true) }) (v := ?_) rfl (by kernel_rfl) (by kernel_rfl) (by kernel_rfl) (fun _ _ _ h => h) (Or.inl ⟨by rfl, ?_⟩) (by assumption) ?_
              rotate_left
              · (intro w hSw; (try dsimp only at hSw); go_simp; try with_reducible rfl)
              rotate_left
              try simp only [Act.put, List.setIfInBounds_toArray, List.set_cons_zero, List.set_cons_succ]
              refine wpAnyH_take (i := 26) (oi := { dst := some 74, op := Go.Op.binOp Go.BinOp.sub 3 (Go.Operand.tmp 73) (Go.Operand.const (Go.Value.int Go.IntKind.i64 1)) 3, type := 3, pos := "law.go:192", after := #[{ on := 25, ground := Go.Ground.data }, { on := 20, ground := Go.Ground.guard }], guard := some (20, true) }) (v := ?_) rfl (by kernel_rfl) (by kernel_rfl) (by kernel_rfl) (fun _ _ _ h => h) (Or.inl ⟨by rfl, ?_⟩) (by assumption) ?_
              rotate_left
              · (intro w hSw; (try dsimp only at hSw); go_simp; try with_reducible rfl)
              rotate_left
              try simp only [Act.put, List.setIfInBounds_toArray, List.set_cons_zero, List.set_cons_succ]
              refine wpAnyH_take (i := 27) (oi := { dst := some 75, op := Go.Op.indexAddr 41 (Go.Operand.tmp 71) (Go.Operand.tmp 74), type := 0, pos := "law.go:192", after := #[{ on := 23, ground := Go.Ground.data }, { on := 26, ground := Go.Ground.data }, { on := 20, ground := Go.Ground.guard }], guard := some (20, true) }) (v := ?_) rfl (by kernel_rfl) (by kernel_rfl) (by kernel_rfl) (fun _ _ _ h => h) (Or.inl ⟨by rfl, ?_⟩) (by assumption) ?_
              rotate_left
              · (intro w hSw; (try dsimp only at hSw); go_simp; try with_reducible rfl)
              rotate_left
              try simp only [Act.put, List.setIfInBounds_toArray, List.set_cons_zero, List.set_cons_succ]
              refine wpAnyH_take (i := 28) (oi := { dst := some 76, op := Go.Op.load 9 (Go.Operand.tmp 75), type := 9, pos := "law.go:192", after := #[{ on := 27, ground := Go.Ground.data }, { on := 20, ground := Go.Ground.guard }], guard := some (20, true) }) (v := ?_) rfl (by kernel_rfl) (by kernel_rfl) (by kernel_rfl) (fun _ _ _ h => h) (Or.inl ⟨by rfl, ?_⟩) (by assumption) ?_
              rotate_left
              · (intro w hSw; (try dsimp only at hSw); go_simp; try with_reducible rfl)
              rotate_left
              try simp only [Act.put, List.setIfInBounds_toArray, List.set_cons_zero, List.set_cons_succ]
              refine wpAnyH_take (i := 29) (oi := { dst := some 77, op := Go.Op.move (Go.Operand.tmp 6), type := 9, pos := "law.go:192", after := #[{ on := 20, ground := Go.Ground.guard }], guard := some (20, true) }) (v := ?_) rfl (by kernel_rfl) (by kernel_rfl) (by kernel_rfl) (fun _ _ _ h => h) (Or.inl ⟨by rfl, ?_⟩) (by assumption) ?_
              rotate_left
              · (intro w hSw; (try dsimp only at hSw); go_simp; try with_reducible rfl)
              rotate_left
              try simp only [Act.put, List.setIfInBounds_toArray, List.set_cons_zero, List.set_cons_succ]
              refine wpAnyH_ready (rs := [30]) (by kernel_rfl) (by simp) ?_
              refine AllReadyH.cons (o := { dst := some 78, op := Go.Op.call { callee := Go.Callee.value (Go.Operand.func 18), args := #[Go.Operand.tmp 70, Go.Operand.tmp 76, Go.Operand.tmp 77], argTypes := #[28, 9, 9] }, type := 3, pos := "law.go:192", after := #[{ on := 22, ground := Go.Ground.data }, { on := 28, ground := Go.Ground.data }, { on := 29, ground := Go.Ground.data }, { on := 20, ground := Go.Ground.chain }, { on := 20, ground := Go.Ground.guard }], guard := some (20, true) }) rfl (fun K hK => ?_) AllReadyH.nil
              go_simp
              go_at_call 18; refine (KC.out _ HF5.out).mono ?_; rintro e w6 ⟨rfl, hb6⟩
              have HF6 : Hid (Below w2.heap.size w2 w6) := HF5.out.trans (hb6.mono HF5.out.size)
              clear hb6 HF5
              have hs6 := KX2.out _ HF6.out
              have hy6 : w6.cell? (ado.add j) = some (.string y) := (HF6.out.cell ly).trans hcy
              go_wp2_with fail
              refine hK.out _ _ ?_ (fun hHeld => ?_)
              · (try dsimp only); (first | assumption | go_keep)
              clear hK K
              try simp only [Act.put, List.setIfInBounds_toArray, List.set_cons_zero, List.set_cons_succ]
              refine wpAnyH_take (i := 31) (oi := { dst := some 79, op := Go.Op.binOp Go.BinOp.neq 3 (Go.Operand.tmp 78) (Go.Operand.const (Go.Value.int Go.IntKind.i64 (-1))) 3, type := 4, pos := "law.go:192", after := #[{ on := 30, ground := Go.Ground.data }, { on := 20, ground := Go.Ground.guard }], guard := some (20, true) }) (v := ?_) rfl (by kernel_rfl) (by kernel_rfl) (by kernel_rfl) (fun _ _ _ h => h) (Or.inl ⟨by rfl, ?_⟩) (by assumption) ?_
              rotate_left
              · (intro w hSw; (try dsimp only at hSw); go_simp; try with_reducible rfl)
              rotate_left
              try simp only [Act.put, List.setIfInBounds_toArray, List.set_cons_zero, List.set_cons_succ]
              refine wpAnyH_take (i := 32) (oi := { dst := some 80, op := Go.Op.pick (Go.Operand.tmp 68) (Go.Operand.tmp 79) (Go.Operand.const (Go.Value.bool false)), type := 4, pos := "law.go:192", after := #[{ on := 20, ground := Go.Ground.data }, { on := 31, ground := Go.Ground.data }, { on := 16, ground := Go.Ground.guard }], guard := some (16, false) }) (v := ?_) rfl (by kernel_rfl) (by kernel_rfl) (by kernel_rfl) (fun _ _ _ h => h) (Or.inl ⟨by rfl, ?_⟩) (by assumption) ?_
              rotate_left
              · (intro w hSw; (try dsimp only at hSw); go_simp; try with_reducible rfl)
              rotate_left
              try simp only [Act.put, List.setIfInBounds_toArray, List.set_cons_zero, List.set_cons_succ]
              refine wpAnyH_take (i := 33) (oi := { dst := some 81, op := Go.Op.pick (Go.Operand.tmp 64) (Go.Operand.const (Go.Value.bool true)) (Go.Operand.tmp 80), type := 4, pos := "law.go:192", after := #[{ on := 16, ground := Go.Ground.data }, { on := 32, ground := Go.Ground.data }], guard := none }) (v := ?_) rfl (by kernel_rfl) (by kernel_rfl) (by kernel_rfl) (fun _ _ _ h => h) (Or.inl ⟨by rfl, ?_⟩) (by assumption) ?_
              rotate_left
              · (intro w hSw; (try dsimp only at hSw); go_simp; try with_reducible rfl)
              rotate_left
              try simp only [Act.put, List.setIfInBounds_toArray, List.set_cons_zero, List.set_cons_succ]
              refine wpAnyH_done (by kernel_rfl) ?_ _
              refine NoPanic.normal ?_
              have HBF : Hid (Below w1.heap.size w1 w6) := HB2.out.trans (HF6.out.mono HB2.out.size)
              have HOF := Lib.hid (own_below HO2.out HF6.out)
              clear hs4 hs5 hs6 hy4 hy5 hy6 tok5 hcy hcy2 hj0 hj0n hj1 hj2 hj3 hj4 hj5 hjn hjn' hjA hjB hjC hjD hjE hjF KC hx2 HO2 RO2 RA RB
              have hszf : w1.heap.size ≤ w6.heap.size := HBF.out.size
              go_wp2_with (at_builtin; refine wpList_app1 rfl (.tmp 82) (.tmp 84) _ rfl w1.heap.size 9 16 _ info_string rfl Try.underlying41 rfl HOF.out rfl rfl (by omega) (by omega) hszf ?_; rintro v7 w7 hown7 hb7 hs7 hk7; clear hk7)
              have HO7 : Hid (w7.ownsRow w1.heap.size 9 1 v7 (ys ++ [v]).length ((ys ++ [v]).map .string)) := by
                show World.ownsRow _ _ _ _ _ _ _
                rw [List.length_append, HM.out, List.map_append]
                exact hown7
              have HC7 : Hid (Coll L i (k + 1) (ys ++ [v])) := by
                have := HC.out.snoc HIL.out HKL.out
                rw [HV.out] at this
                exact this
              have HB7 : Hid (Below w1.heap.size w1 w7) := HBF.out.trans hb7
              clear hown7 hb7 hs7
              go_roundw
              case rel => exact ⟨k + 1, _, by omega, by go_num, HO7, HC7, HB7⟩
              case measure => simp [intOf]; omega
          · obtain rfl : nv = k := by omega
            have hkz : ¬ (nv : Int) < (nv : Int) := by omega
            go_wp2
            go_roundw
            case rel => exact ⟨i + 1, ys, by omega, by go_num, HO, HC.out.row hv20, HBQ⟩
            case measure => simp [intOf]; omega
      · obtain rfl : ln = i := by omega
        have hiz : ¬ (ln : Int) < (ln : Int) := by omega
        have HBF : Hid (Below w.heap.size w wr) := HB1.out.trans (HBR.out.mono HB1.out.size)
        go_wp2_with fail
        refine (awake_any _).mono ?_
        rintro e w3 ⟨rfl, hb3⟩
        go_wp2
        go_ret
        exact ⟨rfl, HBF.out.trans (hb3.mono HBF.out.size)⟩
end Go.Proofs.Ytgbhpmbkhhbifaa
