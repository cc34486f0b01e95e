import Derived.Test.YtgbhpmbkhhbifaaAppStep
import Derived.Deep.RegionHeld3
import Derived.Deep.DrawnRows
import Derived.Test.YtgbhpmbkhhbifaaPlainInsert
import Derived.Test.YtgbhpmbkhhbifaaSort
import Derived.Test.YtgbhpmbkhhbifaaLetLaw
namespace Go.Proofs.Ytgbhpmbkhhbifaa
open Go.RowKit Col Srt
attribute [local go_sem ↓] Go.wp_at_zero Go.wp_at_succ
set_option linter.unusedVariables false
set_option linter.unusedSimpArgs false
theorem one_strings (l : List ByteArray) : ∀ u ∈ l.map Value.string, u.oneCell' = true := by
  intro u hu
  obtain ⟨s, _, rfl⟩ := List.mem_map.1 hu
  rfl
theorem Reads.cut {w : World} {B n k cap : Nat} {A : Option Addr} {xs : List Value} (h : Reads w B 1 A n xs) (hk : k ≤ n) (hc : n ≤ cap) : Reads w B 1 (if cap = k then A else Option.map (fun x => x.add k) A) (n - k) (xs.drop k) := by
  refine ⟨by rw [List.length_drop, h.1]; omega, fun h0 => ?_⟩
  obtain ⟨ad, e, hb, hcell⟩ := h.2 (by omega)
  subst e
  rw [if_neg (by omega)]
  refine ⟨ad.add k, rfl, by rw [block_of_add]; exact hb, fun j u hu => ?_⟩
  rw [add_of_add]
  exact hcell _ u (by rw [← hu, List.getElem?_drop])
theorem Reads.take {w : World} {B n m : Nat} {A : Option Addr} {xs : List Value} (h : Reads w B 1 A n xs) (hm : m ≤ n) : Reads w B 1 A m (xs.take m) := by
  refine ⟨by rw [List.length_take, h.1]; omega, fun h0 => ?_⟩
  obtain ⟨ad, e, hb, hc⟩ := h.2 (by omega)
  refine ⟨ad, e, hb, fun j u hu => ?_⟩
  rw [List.getElem?_take] at hu
  split at hu
  · exact hc j u hu
  · cases hu
set_option maxHeartbeats 1000000 in
theorem refSort_any (nm : ByteArray) (UA A LA : Option Addr) (un uc n c ln lc : Nat) (L : List (List ByteArray)) (l : List ByteArray) (w : World)
    (hL : RowsR w w.heap.size A n L) (hz : SizedL L) (hl : SR w w.heap.size LA ln l) (hln : ln ≤ 1099511627776) (hs : ∀ s, s ∈ l → s.size ≤ 1099511627776) :
    Calls Try.prog 23 #[.agg #[.string nm, .slice UA un uc, .slice A n c], .slice LA ln lc] w fun e w' => ∃ v ys, e = .returned v ∧ w'.ownsRow w.heap.size 9 1 v ln (ys.map .string) ∧
      StableOf (cmpB L) l ys ∧ Below w.heap.size w w' := by
  have hbe := below_new w (.cells #[Value.string nm, Value.slice UA un uc, Value.slice A n c] 28)
  have HBE := Lib.hid hbe
  have HS := Lib.hid hs
  have HL := Lib.hid hL
  have HLL := Lib.hid hl
  have HLN : Hid (l.length = ln) := hl.len
  clear hs hL hl
  obtain ⟨w0, hw0⟩ : ∃ w0, w0 = w.alloc (.cells #[Value.string nm, Value.slice UA un uc, Value.slice A n c] 28) := ⟨_, rfl⟩
  have hsz0 : w.heap.size < w0.heap.size := by rw [hw0]; simp
  have hx0 : w0.cell? ⟨w.heap.size, 0, none⟩ = some (.string nm) := by rw [hw0, World.cell?_alloc_at _ _ _ _ rfl]; rfl
  have hx1 : w0.cell? ⟨w.heap.size, 1, none⟩ = some (.slice UA un uc) := by rw [hw0, World.cell?_alloc_at _ _ _ _ rfl]; rfl
  have hx2 : w0.cell? ⟨w.heap.size, 2, none⟩ = some (.slice A n c) := by rw [hw0, World.cell?_alloc_at _ _ _ _ rfl]; rfl
  have HX0 := Lib.hid hx0; have HX1 := Lib.hid hx1; have HX2 := Lib.hid hx2
  rw [← hw0] at HBE
  clear hbe hx0 hx1 hx2
  go_enter Try.func23, Try.ntmps23
  go_wp2_with fail
  rw [← hw0]
  clear hw0
  go_loopw [5, 6, 7, 10] (fun v5 _ _ v wr => ∃ (k : Nat) (ys : List ByteArray), k ≤ ln ∧ v = .int .i64 k ∧ Hid (wr.ownsRow w.heap.size 9 1 v5 k (ys.map .string)) ∧ Hid (StableOf (cmpB L) (l.take k) ys) ∧ Hid (Below w0.heap.size w0 wr)) (fun _ _ _ v _ => ln - (intOf v).toNat)
  case atStart => exact ⟨0, [], Nat.zero_le _, rfl, World.ownsRow_nil _ _ _ _, stable_nil, Below.refl _ _⟩
  case round =>
    obtain ⟨k, ys, hk, rfl, HO, HST, HBR⟩ := hrel
    obtain ⟨wo, hwo⟩ : ∃ wo, wo = wr := ⟨_, rfl⟩
    subst hwo
    have HBW : Hid (Below w.heap.size w wo) := HBE.out.trans (HBR.out.mono HBE.out.size)
    obtain ⟨AO, co, rfl, hco, hco2, ro⟩ := own_form HO.out
    have RO := Lib.hid ro; clear ro
    by_cases hlt : k < ln
    · have hkz : (k : Int) < (ln : Int) := by omega
      obtain ⟨adl, x, rfl, lx1', hx, hcx⟩ := (SR.on HLL.out HBW.out).at_ hlt
      have HX := Lib.hid hx; clear hx
      have hyl : Hid (ys.length = k) := by
        have h1 := HST.out.perm.length_eq
        rw [List.length_take, HLN.out] at h1
        show _ = _
        omega
      go_wp2_with fail
      go_loopw [7] (fun v7 wr => ∃ m : Nat, m ≤ k ∧ v7 = .int .i64 m ∧ Hid (∀ j y, m ≤ j → ys[j]? = some y → cmpB L x y < 0) ∧ Hid (Below wo.heap.size wo wr)) (fun v7 _ => (intOf v7).toNat)
      case atStart =>
        refine ⟨k, Nat.le_refl _, rfl, fun j y hj hy => ?_, Below.refl _ _⟩
        have := (List.getElem?_eq_some_iff.1 hy).1
        rw [hyl.out] at this
        omega
      case round =>
        obtain ⟨m, hm, rfl, HAL, HBQ⟩ := hrel
        have HB0Q : Hid (Below w0.heap.size w0 wr) := HBR.out.trans (HBQ.out.mono HBR.out.size)
        have HBWQ : Hid (Below w.heap.size w wr) := HBE.out.trans (HB0Q.out.mono HBE.out.size)
        have q0 : ∀ p : BW wr, p.at_.cell? ⟨w.heap.size, 0, none⟩ = some (.string nm) := fun p => ((HB0Q.out.trans (p.bel.mono HB0Q.out.size)).cell hsz0).trans HX0.out
        have q1 : ∀ p : BW wr, p.at_.cell? ⟨w.heap.size, 1, none⟩ = some (.slice UA un uc) := fun p => ((HB0Q.out.trans (p.bel.mono HB0Q.out.size)).cell hsz0).trans HX1.out
        have q2 : ∀ p : BW wr, p.at_.cell? ⟨w.heap.size, 2, none⟩ = some (.slice A n c) := fun p => ((HB0Q.out.trans (p.bel.mono HB0Q.out.size)).cell hsz0).trans HX2.out
        have qx : ∀ p : BW wr, p.at_.cell? (adl.add k) = some (.string x) := fun p => ((HBQ.out.trans (p.bel.mono HBQ.out.size)).cell (by rw [block_of_add]; exact lx1')).trans hcx
        by_cases hm0 : m = 0
        · have hj0 : decide ((0 : Int) < (m : Int)) = false := decide_eq_false (by omega)
          have hj0n : decide (0 < m) = false := decide_eq_false (by omega)
          have H1 : Hid (∀ y, 0 < m → ys[m - 1]? = some y → 0 ≤ cmpB L x y) := fun y h => by omega
          clear hm0
          go_wp2_with fail
          refine wp_region_quiet_below (by kernel_rfl) (by kernel_rfl) ?_
          repeat (go_big_quiet_step (fail))
          refine wpQuiet_nil ?_
          intro w3 hw'
          have hb3 := bw_below hw'
          clear hw' q0 q1 q2 qx
          go_wp2_with fail
          have HBW3 : Hid (Below wo.heap.size wo w3) := HBQ.out.trans (hb3.mono HBQ.out.size)
          have hcx3 : w3.cell? (adl.add k) = some (.string x) := ((HBW3.out.cell (by rw [block_of_add]; exact lx1')).trans hcx)
          have hadl : adl.block < w3.heap.size := Nat.lt_of_lt_of_le lx1' HBW3.out.size
          have hm0z : (0 : Int) ≤ (m : Int) := by omega
          have hmcz : (m : Int) ≤ (co : Int) := by omega
          have hmkz : (m : Int) ≤ (k : Int) := by omega
          have hkcz : (k : Int) ≤ (co : Int) := by omega
          have HR3 : Hid (Reads w3 w3.heap.size 1 AO k (ys.map .string)) := (RO.out.below HBW3.out).more HBW3.out.size
          have HR1 : Hid (∀ W, Below w3.heap.size w3 W → Reads W w3.heap.size 1 AO m ((ys.take m).map .string)) := fun W hW => by
            have := (HR3.out.below hW).take hm
            rwa [← List.map_take] at this
          have HR2 : Hid (∀ W, Below w3.heap.size w3 W → Reads W w3.heap.size 1 (if co = m then AO else Option.map (fun x => x.add m) AO) (k - m) ((ys.drop m).map .string)) := fun W hW => by
            have := (HR3.out.below hW).cut hm hco
            simpa [List.map_drop] using this
          go_region_held3 (fun w' => w'.cell? (adl.add k) = some (.string x)) (first | assumption | go_keep)
            ((first
              | (have own0 : ((w3.alloc (.cells #[] 9)).drew).ownsRow w3.heap.size 9 1 (.slice (some ⟨w3.heap.size, 0, none⟩) 0 0) 0 [] := own_empty (W := w3) rfl (Nat.le_refl _)
                 have bel0 : Below w3.heap.size w3 ((w3.alloc (.cells #[] 9)).drew) := ((Below.refl _ w3).alloc (Nat.le_refl _) _).drew
                 refine step_app (by rfl) (.tmp 33) (.tmp 36) 41 (by rfl) w3.heap.size 9 16 (.string .empty) info_string rfl Try.underlying41 (by rfl) own0 (A := AO) (m := m) (c := co) (by rfl) (HR1.out _ bel0) (one_strings _) (by omega) (by omega) bel0.size ?_
                 intro v1 w4 hown4 hg4 hat4
                 have hb4 := below_app bel0 own0 hg4 (Nat.le_refl _) bel0.size
                 have hs4 : w4.cell? (adl.add k) = some (.string x) := (hb4.cell (by rw [block_of_add]; exact hadl)).trans hcx3
                 clear own0 bel0 hg4 hat4)
              | (have own0 : (((w3.alloc (.cells #[] 9)).alloc (.cells #[.string x] 9)).drew).ownsRow w3.heap.size 9 1 (.slice (some ⟨w3.heap.size, 0, none⟩) 0 0) 0 [] := (own_empty (W := w3) rfl (Nat.le_refl _)).alloc _
                 have bel0 : Below w3.heap.size w3 (((w3.alloc (.cells #[] 9)).alloc (.cells #[.string x] 9)).drew) := (((Below.refl _ w3).alloc (Nat.le_refl _) _).alloc (by simp) _).drew
                 refine step_app (by rfl) (.tmp 33) (.tmp 36) 41 (by rfl) w3.heap.size 9 16 (.string .empty) info_string rfl Try.underlying41 (by rfl) own0 (A := AO) (m := m) (c := co) (by rfl) (HR1.out _ bel0) (one_strings _) (by omega) (by omega) bel0.size ?_
                 intro v1 w4 hown4 hg4 hat4
                 have hb4 := below_app bel0 own0 hg4 (Nat.le_refl _) bel0.size
                 have hs4 : w4.cell? (adl.add k) = some (.string x) := (hb4.cell (by rw [block_of_add]; exact hadl)).trans hcx3
                 have it0 : Item (((w3.alloc (.cells #[] 9)).alloc (.cells #[.string x] 9)).drew) (w3.heap.size + 1) (.string x) (.slice (some ⟨w3.heap.size, 0, none⟩) 0 0) := Item.second rfl rfl
                 have N4 := it0.grown hg4 hat4
                 clear it0
                 clear own0 bel0 hg4 hat4)
              | (have own0 : (((w3.alloc (.cells #[.string x] 9)).alloc (.cells #[] 9)).drew).ownsRow w3.heap.size 9 1 (.slice (some ⟨w3.heap.size + 1, 0, none⟩) 0 0) 0 [] := own_empty (W := w3.alloc (.cells #[.string x] 9)) (by simp) (by simp)
                 have bel0 : Below w3.heap.size w3 (((w3.alloc (.cells #[.string x] 9)).alloc (.cells #[] 9)).drew) := (((Below.refl _ w3).alloc (Nat.le_refl _) _).alloc (by simp) _).drew
                 refine step_app (by rfl) (.tmp 33) (.tmp 36) 41 (by rfl) w3.heap.size 9 16 (.string .empty) info_string rfl Try.underlying41 (by rfl) own0 (A := AO) (m := m) (c := co) (by rfl) (HR1.out _ bel0) (one_strings _) (by omega) (by omega) bel0.size ?_
                 intro v1 w4 hown4 hg4 hat4
                 have hb4 := below_app bel0 own0 hg4 (Nat.le_refl _) bel0.size
                 have hs4 : w4.cell? (adl.add k) = some (.string x) := (hb4.cell (by rw [block_of_add]; exact hadl)).trans hcx3
                 have it0 : Item (((w3.alloc (.cells #[.string x] 9)).alloc (.cells #[] 9)).drew) w3.heap.size (.string x) (.slice (some ⟨w3.heap.size + 1, 0, none⟩) 0 0) := Item.first rfl rfl
                 have N4 := it0.grown hg4 hat4
                 clear it0
                 clear own0 bel0 hg4 hat4)
              | (have own0 : (w4.alloc (.cells #[.string x] 9)).ownsRow w3.heap.size 9 1 v1 (0 + m) _ := hown4.alloc _
                 have bel0 : Below w3.heap.size w3 (w4.alloc (.cells #[.string x] 9)) := hb4.alloc hb4.size _
                 refine step_app (by rfl) (.tmp 37) (.tmp 42) 41 (by rfl) w3.heap.size 9 16 (.string .empty) info_string rfl Try.underlying41 (by rfl) own0 (A := some ⟨w4.heap.size, 0, none⟩) (m := 1) (c := 1) (by rfl) (Item.reads (Item.new hown4 rfl)) (by simp [Value.oneCell']) (by omega) (by omega) (Nat.le_trans bel0.size (by simp)) ?_
                 intro v2 w5 hown5 hg5 hat5
                 have hb5 := below_app bel0 own0 hg5 (Nat.le_refl _) bel0.size
                 have hs5 : w5.cell? (adl.add k) = some (.string x) := (hb5.cell (by rw [block_of_add]; exact hadl)).trans hcx3
                 clear own0 bel0 hg5 hat5 hown4 hb4)
              | (have own0 : w4.ownsRow w3.heap.size 9 1 v1 (0 + m) _ := hown4
                 have bel0 : Below w3.heap.size w3 w4 := hb4
                 refine step_app (by rfl) (.tmp 37) (.tmp 42) 41 (by rfl) w3.heap.size 9 16 (.string .empty) info_string rfl Try.underlying41 (by rfl) own0 (A := some ⟨w3.heap.size + 1, 0, none⟩) (m := 1) (c := 1) (by rfl) (Item.reads (N4)) (by simp [Value.oneCell']) (by omega) (by omega) (Nat.le_trans bel0.size (by simp)) ?_
                 intro v2 w5 hown5 hg5 hat5
                 have hb5 := below_app bel0 own0 hg5 (Nat.le_refl _) bel0.size
                 have hs5 : w5.cell? (adl.add k) = some (.string x) := (hb5.cell (by rw [block_of_add]; exact hadl)).trans hcx3
                 clear own0 bel0 hg5 hat5 hown4 hb4)
              | (have own0 : w4.ownsRow w3.heap.size 9 1 v1 (0 + m) _ := hown4
                 have bel0 : Below w3.heap.size w3 w4 := hb4
                 refine step_app (by rfl) (.tmp 37) (.tmp 42) 41 (by rfl) w3.heap.size 9 16 (.string .empty) info_string rfl Try.underlying41 (by rfl) own0 (A := some ⟨w3.heap.size, 0, none⟩) (m := 1) (c := 1) (by rfl) (Item.reads (N4)) (by simp [Value.oneCell']) (by omega) (by omega) (Nat.le_trans bel0.size (by simp)) ?_
                 intro v2 w5 hown5 hg5 hat5
                 have hb5 := below_app bel0 own0 hg5 (Nat.le_refl _) bel0.size
                 have hs5 : w5.cell? (adl.add k) = some (.string x) := (hb5.cell (by rw [block_of_add]; exact hadl)).trans hcx3
                 clear own0 bel0 hg5 hat5 hown4 hb4)
              | (refine step_app (by rfl) (.tmp 43) (.tmp 46) 41 (by rfl) w3.heap.size 9 16 (.string .empty) info_string rfl Try.underlying41 (by rfl) hown5 (A := if co = m then AO else Option.map (fun x => x.add m) AO) (m := k - m) (c := co - m) (by rfl) (HR2.out _ hb5) (one_strings _) (by omega) (by omega) hb5.size ?_
                 intro v3 w6 hown6 hg6 hat6
                 have hb6 := below_app hb5 hown5 hg6 (Nat.le_refl _) hb5.size
                 have hs6 : w6.cell? (adl.add k) = some (.string x) := (hb6.cell (by rw [block_of_add]; exact hadl)).trans hcx3
                 clear hown5 hb5 hg6 hat6)))
          all_goals
            have HOWN6 : Hid (w6.ownsRow w.heap.size 9 1 v3 (k + 1) ((ys.take m ++ x :: ys.drop m).map .string)) := by
              have h6 := own_base hown6 (Nat.le_trans HBW.out.size HBW3.out.size)
              have e6 : 0 + m + 1 + (k - m) = k + 1 := by omega
              rw [e6] at h6
              show World.ownsRow _ _ _ _ _ _ _
              simpa [List.map_append] using h6
            have HB6 : Hid (Below w0.heap.size w0 w6) := HBR.out.trans ((HBW3.out.trans (hb6.mono HBW3.out.size)).mono HBR.out.size)
            have HST6 : Hid (StableOf (cmpB L) (l.take (k + 1)) (ys.take m ++ x :: ys.drop m)) := stable_insert (cmpB_is L) HST.out HX.out (by rw [hyl.out]; exact hm) H1.out HAL.out
            clear hown6 hb6 hs6 hcx3 HR1 HR2 HR3
            go_wp2
            go_roundw
            case rel => exact ⟨k + 1, _, by omega, by go_num, HOWN6, HST6, HB6⟩
            case measure => simp [intOf]; omega
        · obtain ⟨j, hij⟩ : ∃ j, m = j + 1 := ⟨m - 1, by omega⟩
          have hjl : j < ys.length := by rw [hyl.out]; omega
          obtain ⟨ado, uy, rfl, ly1', huy, hcy⟩ := RO.out.at_ (k := j) (by omega)
          obtain ⟨y, hy⟩ : ∃ y, ys[j]? = some y := ⟨ys[j], List.getElem?_eq_getElem hjl⟩
          have ez : uy = .string y := by simpa [hy] using huy.symm
          subst ez
          have HY := Lib.hid hy
          have hys : y.size ≤ 1099511627776 := HS.out y (List.mem_of_mem_take (HST.out.perm.mem_iff.1 (List.mem_of_getElem? hy)))
          have hxs : x.size ≤ 1099511627776 := HS.out x (List.mem_of_getElem? HX.out)
          have qy : ∀ p : BW wr, p.at_.cell? (ado.add j) = some (.string y) := fun p => ((HBQ.out.trans (p.bel.mono HBQ.out.size)).cell (by rw [block_of_add]; exact ly1')).trans hcy
          obtain ⟨cr, hcr⟩ : ∃ r, Hid (cmpS L x.data.toList y.data.toList = r) := ⟨_, rfl⟩
          have hj0 : decide ((0 : Int) < (m : Int)) = true := decide_eq_true (by omega)
          have hj0n : decide (0 < m) = true := decide_eq_true (by omega)
          have hj1 : wrap64 ((m : Int) - 1) = (j : Int) := by unfold wrap64; omega
          have hj2 : (m : Int) - 1 = (j : Int) := by omega
          have hj3 : m - 1 = j := by omega
          have hj4 : ((m : Int) - 1).toNat = j := by omega
          have hjn : (j : Int) < (k : Int) := by omega
          have hjn' : j < k := by omega
          have HIJ := Lib.hid hij
          clear huy hij hm0 hy hcy
          have KC : Hid (∀ p : BW wr, Calls Try.prog 19 #[.agg #[.string nm, .slice UA un uc, .slice A n c], .string x, .string y] p.at_ fun e w' => e = .returned (.int .i64 cr) ∧ ∃ q : BW wr, w' = q.at_) := fun p =>
            below_quiet (mono_eq (refCompare_any nm UA A un uc n c L x y p.at_ p.at_.heap.size (HL.out.on (HBWQ.out.trans (p.bel.mono HBWQ.out.size))) (Nat.le_refl _) hz (by omega) (by omega)) (by rw [hcr.out]))
          by_cases hc0 : cr < 0
          · have hcd : decide (cr < 0) = true := decide_eq_true hc0
            go_wp2_with fail
            refine wp_region_quiet_below (by kernel_rfl) (by kernel_rfl) ?_
            repeat (go_big_quiet_step ((first
              | (go_at_call 19; (with_reducible exact KC.out _)))))
            refine wpQuiet_nil ?_
            intro w3 hw'
            have hb3 := bw_below hw'
            clear hw' q0 q1 q2 qx qy KC
            have HB3 : Hid (Below wo.heap.size wo w3) := HBQ.out.trans (hb3.mono HBQ.out.size)
            clear hb3
            go_wp2
            go_roundw
            case rel =>
              refine ⟨j, by omega, by go_num, fun i z hi hz => ?_, HB3⟩
              by_cases e : i = j
              · subst e
                rw [HY.out] at hz
                cases hz
                show cmpS L _ _ < 0
                rw [hcr.out]; exact hc0
              · exact HAL.out i z (by have := HIJ.out; omega) hz
            case measure => simp [intOf]; omega
          · have hcd : decide (cr < 0) = false := decide_eq_false hc0
            have H1 : Hid (∀ y, 0 < m → ys[m - 1]? = some y → 0 ≤ cmpB L x y) := fun z h hz => by
              rw [hj3, HY.out] at hz
              cases hz
              show 0 ≤ cmpS L _ _
              rw [hcr.out]; omega
            go_wp2_with fail
            refine wp_region_quiet_below (by kernel_rfl) (by kernel_rfl) ?_
            repeat (go_big_quiet_step ((first
              | (go_at_call 19; (with_reducible exact KC.out _)))))
            refine wpQuiet_nil ?_
            intro w3 hw'
            have hb3 := bw_below hw'
            clear hw' q0 q1 q2 qx qy KC
            go_wp2_with fail
            obtain ⟨AO, hAO⟩ : ∃ AO, some ado = AO := ⟨_, rfl⟩
            rw [hAO]
            rw [hAO] at RO
            clear hAO
            have HBW3 : Hid (Below wo.heap.size wo w3) := HBQ.out.trans (hb3.mono HBQ.out.size)
            have hcx3 : w3.cell? (adl.add k) = some (.string x) := ((HBW3.out.cell (by rw [block_of_add]; exact lx1')).trans hcx)
            have hadl : adl.block < w3.heap.size := Nat.lt_of_lt_of_le lx1' HBW3.out.size
            have hm0z : (0 : Int) ≤ (m : Int) := by omega
            have hmcz : (m : Int) ≤ (co : Int) := by omega
            have hmkz : (m : Int) ≤ (k : Int) := by omega
            have hkcz : (k : Int) ≤ (co : Int) := by omega
            have HR3 : Hid (Reads w3 w3.heap.size 1 AO k (ys.map .string)) := (RO.out.below HBW3.out).more HBW3.out.size
            have HR1 : Hid (∀ W, Below w3.heap.size w3 W → Reads W w3.heap.size 1 AO m ((ys.take m).map .string)) := fun W hW => by
              have := (HR3.out.below hW).take hm
              rwa [← List.map_take] at this
            have HR2 : Hid (∀ W, Below w3.heap.size w3 W → Reads W w3.heap.size 1 (if co = m then AO else Option.map (fun x => x.add m) AO) (k - m) ((ys.drop m).map .string)) := fun W hW => by
              have := (HR3.out.below hW).cut hm hco
              simpa [List.map_drop] using this
            go_region_held3 (fun w' => w'.cell? (adl.add k) = some (.string x)) (first | assumption | go_keep)
              ((first
                | (have own0 : ((w3.alloc (.cells #[] 9)).drew).ownsRow w3.heap.size 9 1 (.slice (some ⟨w3.heap.size, 0, none⟩) 0 0) 0 [] := own_empty (W := w3) rfl (Nat.le_refl _)
                   have bel0 : Below w3.heap.size w3 ((w3.alloc (.cells #[] 9)).drew) := ((Below.refl _ w3).alloc (Nat.le_refl _) _).drew
                   refine step_app (by rfl) (.tmp 33) (.tmp 36) 41 (by rfl) w3.heap.size 9 16 (.string .empty) info_string rfl Try.underlying41 (by rfl) own0 (A := AO) (m := m) (c := co) (by rfl) (HR1.out _ bel0) (one_strings _) (by omega) (by omega) bel0.size ?_
                   intro v1 w4 hown4 hg4 hat4
                   have hb4 := below_app bel0 own0 hg4 (Nat.le_refl _) bel0.size
                   have hs4 : w4.cell? (adl.add k) = some (.string x) := (hb4.cell (by rw [block_of_add]; exact hadl)).trans hcx3
                   clear own0 bel0 hg4 hat4)
                | (have own0 : (((w3.alloc (.cells #[] 9)).alloc (.cells #[.string x] 9)).drew).ownsRow w3.heap.size 9 1 (.slice (some ⟨w3.heap.size, 0, none⟩) 0 0) 0 [] := (own_empty (W := w3) rfl (Nat.le_refl _)).alloc _
                   have bel0 : Below w3.heap.size w3 (((w3.alloc (.cells #[] 9)).alloc (.cells #[.string x] 9)).drew) := (((Below.refl _ w3).alloc (Nat.le_refl _) _).alloc (by simp) _).drew
                   refine step_app (by rfl) (.tmp 33) (.tmp 36) 41 (by rfl) w3.heap.size 9 16 (.string .empty) info_string rfl Try.underlying41 (by rfl) own0 (A := AO) (m := m) (c := co) (by rfl) (HR1.out _ bel0) (one_strings _) (by omega) (by omega) bel0.size ?_
                   intro v1 w4 hown4 hg4 hat4
                   have hb4 := below_app bel0 own0 hg4 (Nat.le_refl _) bel0.size
                   have hs4 : w4.cell? (adl.add k) = some (.string x) := (hb4.cell (by rw [block_of_add]; exact hadl)).trans hcx3
                   have it0 : Item (((w3.alloc (.cells #[] 9)).alloc (.cells #[.string x] 9)).drew) (w3.heap.size + 1) (.string x) (.slice (some ⟨w3.heap.size, 0, none⟩) 0 0) := Item.second rfl rfl
                   have N4 := it0.grown hg4 hat4
                   clear it0
                   clear own0 bel0 hg4 hat4)
                | (have own0 : (((w3.alloc (.cells #[.string x] 9)).alloc (.cells #[] 9)).drew).ownsRow w3.heap.size 9 1 (.slice (some ⟨w3.heap.size + 1, 0, none⟩) 0 0) 0 [] := own_empty (W := w3.alloc (.cells #[.string x] 9)) (by simp) (by simp)
                   have bel0 : Below w3.heap.size w3 (((w3.alloc (.cells #[.string x] 9)).alloc (.cells #[] 9)).drew) := (((Below.refl _ w3).alloc (Nat.le_refl _) _).alloc (by simp) _).drew
                   refine step_app (by rfl) (.tmp 33) (.tmp 36) 41 (by rfl) w3.heap.size 9 16 (.string .empty) info_string rfl Try.underlying41 (by rfl) own0 (A := AO) (m := m) (c := co) (by rfl) (HR1.out _ bel0) (one_strings _) (by omega) (by omega) bel0.size ?_
                   intro v1 w4 hown4 hg4 hat4
                   have hb4 := below_app bel0 own0 hg4 (Nat.le_refl _) bel0.size
                   have hs4 : w4.cell? (adl.add k) = some (.string x) := (hb4.cell (by rw [block_of_add]; exact hadl)).trans hcx3
                   have it0 : Item (((w3.alloc (.cells #[.string x] 9)).alloc (.cells #[] 9)).drew) w3.heap.size (.string x) (.slice (some ⟨w3.heap.size + 1, 0, none⟩) 0 0) := Item.first rfl rfl
                   have N4 := it0.grown hg4 hat4
                   clear it0
                   clear own0 bel0 hg4 hat4)
                | (have own0 : (w4.alloc (.cells #[.string x] 9)).ownsRow w3.heap.size 9 1 v1 (0 + m) _ := hown4.alloc _
                   have bel0 : Below w3.heap.size w3 (w4.alloc (.cells #[.string x] 9)) := hb4.alloc hb4.size _
                   refine step_app (by rfl) (.tmp 37) (.tmp 42) 41 (by rfl) w3.heap.size 9 16 (.string .empty) info_string rfl Try.underlying41 (by rfl) own0 (A := some ⟨w4.heap.size, 0, none⟩) (m := 1) (c := 1) (by rfl) (Item.reads (Item.new hown4 rfl)) (by simp [Value.oneCell']) (by omega) (by omega) (Nat.le_trans bel0.size (by simp)) ?_
                   intro v2 w5 hown5 hg5 hat5
                   have hb5 := below_app bel0 own0 hg5 (Nat.le_refl _) bel0.size
                   have hs5 : w5.cell? (adl.add k) = some (.string x) := (hb5.cell (by rw [block_of_add]; exact hadl)).trans hcx3
                   clear own0 bel0 hg5 hat5 hown4 hb4)
                | (have own0 : w4.ownsRow w3.heap.size 9 1 v1 (0 + m) _ := hown4
                   have bel0 : Below w3.heap.size w3 w4 := hb4
                   refine step_app (by rfl) (.tmp 37) (.tmp 42) 41 (by rfl) w3.heap.size 9 16 (.string .empty) info_string rfl Try.underlying41 (by rfl) own0 (A := some ⟨w3.heap.size + 1, 0, none⟩) (m := 1) (c := 1) (by rfl) (Item.reads (N4)) (by simp [Value.oneCell']) (by omega) (by omega) (Nat.le_trans bel0.size (by simp)) ?_
                   intro v2 w5 hown5 hg5 hat5
                   have hb5 := below_app bel0 own0 hg5 (Nat.le_refl _) bel0.size
                   have hs5 : w5.cell? (adl.add k) = some (.string x) := (hb5.cell (by rw [block_of_add]; exact hadl)).trans hcx3
                   clear own0 bel0 hg5 hat5 hown4 hb4)
                | (have own0 : w4.ownsRow w3.heap.size 9 1 v1 (0 + m) _ := hown4
                   have bel0 : Below w3.heap.size w3 w4 := hb4
                   refine step_app (by rfl) (.tmp 37) (.tmp 42) 41 (by rfl) w3.heap.size 9 16 (.string .empty) info_string rfl Try.underlying41 (by rfl) own0 (A := some ⟨w3.heap.size, 0, none⟩) (m := 1) (c := 1) (by rfl) (Item.reads (N4)) (by simp [Value.oneCell']) (by omega) (by omega) (Nat.le_trans bel0.size (by simp)) ?_
                   intro v2 w5 hown5 hg5 hat5
                   have hb5 := below_app bel0 own0 hg5 (Nat.le_refl _) bel0.size
                   have hs5 : w5.cell? (adl.add k) = some (.string x) := (hb5.cell (by rw [block_of_add]; exact hadl)).trans hcx3
                   clear own0 bel0 hg5 hat5 hown4 hb4)
                | (refine step_app (by rfl) (.tmp 43) (.tmp 46) 41 (by rfl) w3.heap.size 9 16 (.string .empty) info_string rfl Try.underlying41 (by rfl) hown5 (A := if co = m then AO else Option.map (fun x => x.add m) AO) (m := k - m) (c := co - m) (by rfl) (HR2.out _ hb5) (one_strings _) (by omega) (by omega) hb5.size ?_
                   intro v3 w6 hown6 hg6 hat6
                   have hb6 := below_app hb5 hown5 hg6 (Nat.le_refl _) hb5.size
                   have hs6 : w6.cell? (adl.add k) = some (.string x) := (hb6.cell (by rw [block_of_add]; exact hadl)).trans hcx3
                   clear hown5 hb5 hg6 hat6)))
            all_goals
              have HOWN6 : Hid (w6.ownsRow w.heap.size 9 1 v3 (k + 1) ((ys.take m ++ x :: ys.drop m).map .string)) := by
                have h6 := own_base hown6 (Nat.le_trans HBW.out.size HBW3.out.size)
                have e6 : 0 + m + 1 + (k - m) = k + 1 := by omega
                rw [e6] at h6
                show World.ownsRow _ _ _ _ _ _ _
                simpa [List.map_append] using h6
              have HB6 : Hid (Below w0.heap.size w0 w6) := HBR.out.trans ((HBW3.out.trans (hb6.mono HBW3.out.size)).mono HBR.out.size)
              have HST6 : Hid (StableOf (cmpB L) (l.take (k + 1)) (ys.take m ++ x :: ys.drop m)) := stable_insert (cmpB_is L) HST.out HX.out (by rw [hyl.out]; exact hm) H1.out HAL.out
              clear hown6 hb6 hs6 hcx3 HR1 HR2 HR3
              go_wp2
              go_roundw
              case rel => exact ⟨k + 1, _, by omega, by go_num, HOWN6, HST6, HB6⟩
              case measure => simp [intOf]; omega
    · obtain rfl : ln = k := by omega
      have hkz : ¬ (ln : Int) < (ln : Int) := by omega
      go_wp2
      go_ret
      refine ⟨_, rfl, ys, HO.out, ?_, HBW.out⟩
      have h1 := HST.out
      rw [List.take_of_length_le (by rw [HLN.out]; exact Nat.le_refl _)] at h1
      exact h1
end Go.Proofs.Ytgbhpmbkhhbifaa
