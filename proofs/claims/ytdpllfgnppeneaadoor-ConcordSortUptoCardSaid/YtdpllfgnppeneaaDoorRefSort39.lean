/-
  The reference's sort of lines.
-/
import Derived.Test.YtdpllfgnppeneaaDoorAppR
import Derived.Test.YtdpllfgnppeneaaDoorG16
import Derived.Test.YtdpllfgnppeneaaDoorRefLess
import Derived.Deep.Cut
import Derived.Deep.CutRange
namespace Go.Proofs.YtdpllfgnppeneaaDoor
open Go.RowKit Ru Lay Srt Col
attribute [local go_sem ↓] Go.wp_at_zero Go.wp_at_succ
set_option linter.unusedVariables false
set_option linter.unusedSimpArgs false

set_option maxHeartbeats 4000000 in
set_option maxRecDepth 100000 in
theorem refSort39_any (nm : ByteArray) (UA LA : Option Addr) (un uc ln lc : Nat) (L : List (List ByteArray)) (A : Option Addr) (n c : Nat) (l : List Hv) (w : World) (hL : RowsR w w.heap.size LA ln L) (hz : SizedL L) (h : HitsR w w.heap.size A n l) (hn : n ≤ 1000) (hl : ∀ x ∈ l, HvZ x.toHt) :
    Calls Tryd.prog 16 #[.agg #[.string nm, .slice UA un uc, .slice LA ln lc], .slice A n c] w fun e w' => ∃ v, e = .returned v ∧ ∃ ys, OwnR encH 5 33 w' w.heap.size v ys ∧ StableOf (fun x y : Hv => cmpH L x.toHt y.toHt) l ys ∧ (∀ x ∈ ys, HvR w' w'.heap.size x) ∧ Below w.heap.size w w' := by
  have HLE := Lib.hid fun (x y : Hv) (hx : x ∈ l) (hy : y ∈ l) (W : World) (hW : Below w.heap.size w W) => refLess_any nm UA LA un uc ln lc L x y W (rows_more (hL.below hW) hW.size) hz ((h.2 x hx).on hW) ((h.2 y hy).on hW) (hl x hx) (hl y hy)
  have HH := Lib.hid h
  have HLN := Lib.hid h.len
  have HCI : Hid (IsCmp fun x y : Hv => cmpH L x.toHt y.toHt) := (cmpH_is L).comap Hv.toHt
  obtain ⟨cH, hcH⟩ : ∃ cH, (fun x y : Hv => cmpH L x.toHt y.toHt) = cH := ⟨_, rfl⟩
  have HCE : Hid (∀ x y : Hv, cmpH L x.toHt y.toHt = cH x y) := fun x y => congrFun (congrFun hcH x) y
  rw [hcH] at HCI ⊢
  clear hL hz h hl hcH
  go_enter Tryd.func16, Tryd.ntmps16
  go_upto_region 1 with fail
  obtain ⟨W0, hW0⟩ : ∃ W0, (w.alloc (.cells #[.string nm, .slice UA un uc, .slice LA ln lc] 28)) = W0 := ⟨_, rfl⟩
  have HB0 : Hid (Below w.heap.size w W0) := by rw [← hW0]; exact ((Below.refl _ _).alloc (by simp <;> omega) _)
  have hz0 : W0.heap.size = w.heap.size + 1 := by rw [← hW0]; simp
  have HC0 : Hid (∀ X, Below W0.heap.size W0 X → X.rangeAt (w.heap.size) 0 [.string nm, .slice UA un uc, .slice LA ln lc]) := fun X hX => by
    refine range_below hX (by omega) fun j v hv => ?_
    rw [← hW0, Nat.zero_add]; rw [World.cell?_alloc_at _ _ _ _ (by simp), ← hv, ← List.getElem?_toArray]; try rfl
  (try rw [hW0])
  clear hW0
  have hsz0 : w.heap.size < W0.heap.size := by omega
  go_wp2_with fail
  go_loopw [5, 6, 7, 8] (fun v5 v6 _ _ wr => ∃ (i : Nat) (ys : List Hv), i ≤ n ∧ v6 = .int .i64 i ∧ Hid (OwnR encH 5 33 wr W0.heap.size v5 ys) ∧ Hid (StableOf cH (l.take i) ys) ∧ Hid (Below W0.heap.size W0 wr)) (fun _ v6 _ _ _ => n - (intOf v6).toNat)
  case atStart => exact ⟨0, [], Nat.zero_le _, rfl, OwnR.nil, stable_nil, Below.refl _ _⟩
  case round =>
    obtain ⟨i, ys, hi, rfl, HO, HST, HB1⟩ := hrel
    obtain ⟨w1, hw1⟩ : ∃ w1, wr = w1 := ⟨_, rfl⟩
    rw [hw1] at HO HB1 ⊢
    clear hw1
    have HBW : Hid (Below w.heap.size w w1) := HB0.out.trans (HB1.out.mono (by omega))
    by_cases hlt : i < n
    · have hiz : (i : Int) < (n : Int) := by omega
      have hiA : (0 : Int) ≤ (i : Int) := by omega
      have HI := Lib.hid hlt
      obtain ⟨al, x, rfl, hab, hx, _, h0, h1, h2, h3, h4⟩ := HH.out.at_ hlt
      have HX := Lib.hid hx
      have hyl : ys.length = i := by
        have e1 := HST.out.perm.length_eq
        rw [List.length_take, HLN.out] at e1
        omega
      have HMEM : Hid (∀ y ∈ ys, y ∈ l) := fun y hy => List.mem_of_mem_take (HST.out.perm.mem_iff.1 hy)
      have HXM : Hid (x ∈ l) := List.mem_of_getElem? hx
      have HXC : Hid (∀ W, Below w.heap.size w W → W.cell? (al.add (i * 5)) = some (.int .i64 x.rid) ∧ W.cell? ⟨(al.add (i * 5)).block, (al.add (i * 5)).off + 1, none⟩ = some (.int .i64 x.nid) ∧ W.cell? ⟨(al.add (i * 5)).block, (al.add (i * 5)).off + 2, none⟩ = some (.slice x.la x.ln x.lc) ∧ W.cell? ⟨(al.add (i * 5)).block, (al.add (i * 5)).off + 3, none⟩ = some (.string x.key) ∧ W.cell? ⟨(al.add (i * 5)).block, (al.add (i * 5)).off + 4, none⟩ = some (.slice x.ra x.rn x.rc)) := fun W hW => by
        have hb5 : (al.add (i * 5)).block < w.heap.size := by rw [block_of_add]; exact hab
        exact ⟨(hW.cell hb5).trans h0, (hW.cell (p := ⟨_, _, none⟩) hb5).trans h1, (hW.cell (p := ⟨_, _, none⟩) hb5).trans h2, (hW.cell (p := ⟨_, _, none⟩) hb5).trans h3, (hW.cell (p := ⟨_, _, none⟩) hb5).trans h4⟩
      obtain ⟨AO, co, hv5, hco, hco2, hro⟩ := OwnR.form HO.out
      rw [hyl] at hv5 hco hro
      subst hv5
      have HRO := Lib.hid hro
      have HYL := Lib.hid hyl
      clear h0 h1 h2 h3 h4 hx hro hyl HO
      go_wp2_with fail
      go_loopw [7] (fun v7 wr2 => ∃ m : Nat, m ≤ i ∧ v7 = .int .i64 m ∧ Hid (∀ j y, m ≤ j → ys[j]? = some y → cH x y < 0) ∧ Hid (Below w1.heap.size w1 wr2)) (fun v7 _ => (intOf v7).toNat)
      case atStart =>
        refine ⟨i, Nat.le_refl _, rfl, fun j y hj hy => ?_, Below.refl _ _⟩
        have := (List.getElem?_eq_some_iff.1 hy).1
        rw [HYL.out] at this
        omega
      case round =>
        obtain ⟨m, hm, rfl, HAL, HB2⟩ := hrel
        obtain ⟨w2, hw2⟩ : ∃ w2, wr = w2 := ⟨_, rfl⟩
        rw [hw2] at HB2 ⊢
        clear hw2
        go_upto_region 6 with fail
        go_cut [31] from 17 to 30 (fun sv wx => ∃ bb : Bool, sv = .bool bb ∧ Hid ((bb = true → 0 < m ∧ ∀ j y, m - 1 ≤ j → ys[j]? = some y → cH x y < 0) ∧ (bb = false → ∀ y, 0 < m → ys[m - 1]? = some y → 0 ≤ cH x y)) ∧ Hid (Below w1.heap.size w1 wx))
        case first =>
          have HBWX : Hid (∀ p : BW w2, Below w1.heap.size w1 p.at_) := fun p => HB2.out.trans (p.bel.mono HB2.out.size)
          have HBP : Hid (∀ p : BW w2, Below w.heap.size w p.at_) := fun p => HBW.out.trans ((HBWX.out p).mono HBW.out.size)
          have HBD : Hid (∀ p : BW w2, Below W0.heap.size W0 p.at_) := fun p => HB1.out.trans ((HBWX.out p).mono HB1.out.size)
          rcases Nat.eq_zero_or_pos m with h0 | h0
          · subst h0
            have hj0 : decide ((0 : Int) < ((0 : Nat) : Int)) = false := rfl
            clear HBWX HBP HBD
            go_wp2_with fail
            go_quiet (fail)
            have HBX : Hid (Below w1.heap.size w1 (w2.drewN nq)) := below_drewN HB2.out nq
            go_wp2
            go_meet
            exact ⟨false, rfl, ⟨(fun h => by cases h), fun _ y h => by omega⟩, HBX⟩
          · obtain ⟨k, hk⟩ : ∃ k, m = k + 1 := ⟨m - 1, by omega⟩
            subst hk
            obtain ⟨ao, y, rfl, hao, hy, q0, qj⟩ := HRO.out.at_ encH_len (by omega) (k := k) (by omega)
            have q1 := qj 1 _ (by omega) rfl
            have q2 := qj 2 _ (by omega) rfl
            have q3 := qj 3 _ (by omega) rfl
            have q4 := qj 4 _ (by omega) rfl
            have q0' := q0 _ rfl
            have HCL := Lib.hid fun p : BW w2 => HLE.out x y HXM.out (HMEM.out y (List.mem_of_getElem? hy)) p.at_ (HBP.out p)
            have hbo : (ao.add (k * 5)).block < w1.heap.size := by rw [block_of_add]; exact hao
            have g0 : ∀ p : BW w2, p.at_.cell? ⟨w.heap.size, 0, none⟩ = some (.string nm) := fun p => (HC0.out p.at_ (HBD.out p)) 0 _ rfl
            have g1 : ∀ p : BW w2, p.at_.cell? ⟨w.heap.size, 1, none⟩ = some (.slice UA un uc) := fun p => (HC0.out p.at_ (HBD.out p)) 1 _ rfl
            have g2 : ∀ p : BW w2, p.at_.cell? ⟨w.heap.size, 2, none⟩ = some (.slice LA ln lc) := fun p => (HC0.out p.at_ (HBD.out p)) 2 _ rfl
            have r0 : ∀ p : BW w2, p.at_.cell? (ao.add (k * 5)) = some (.int .i64 y.rid) := fun p => ((HBWX.out p).cell hbo).trans q0'
            have r1 : ∀ p : BW w2, p.at_.cell? ⟨(ao.add (k * 5)).block, (ao.add (k * 5)).off + 1, none⟩ = some (.int .i64 y.nid) := fun p => ((HBWX.out p).cell (p := ⟨_, _, none⟩) hbo).trans q1
            have r2 : ∀ p : BW w2, p.at_.cell? ⟨(ao.add (k * 5)).block, (ao.add (k * 5)).off + 2, none⟩ = some (.slice y.la y.ln y.lc) := fun p => ((HBWX.out p).cell (p := ⟨_, _, none⟩) hbo).trans q2
            have r3 : ∀ p : BW w2, p.at_.cell? ⟨(ao.add (k * 5)).block, (ao.add (k * 5)).off + 3, none⟩ = some (.string y.key) := fun p => ((HBWX.out p).cell (p := ⟨_, _, none⟩) hbo).trans q3
            have r4 : ∀ p : BW w2, p.at_.cell? ⟨(ao.add (k * 5)).block, (ao.add (k * 5)).off + 4, none⟩ = some (.slice y.ra y.rn y.rc) := fun p => ((HBWX.out p).cell (p := ⟨_, _, none⟩) hbo).trans q4
            have s0 : ∀ p : BW w2, p.at_.cell? (al.add (i * 5)) = some (.int .i64 x.rid) := fun p => (HXC.out p.at_ (HBP.out p)).1
            have s1 : ∀ p : BW w2, p.at_.cell? ⟨(al.add (i * 5)).block, (al.add (i * 5)).off + 1, none⟩ = some (.int .i64 x.nid) := fun p => (HXC.out p.at_ (HBP.out p)).2.1
            have s2 : ∀ p : BW w2, p.at_.cell? ⟨(al.add (i * 5)).block, (al.add (i * 5)).off + 2, none⟩ = some (.slice x.la x.ln x.lc) := fun p => (HXC.out p.at_ (HBP.out p)).2.2.1
            have s3 : ∀ p : BW w2, p.at_.cell? ⟨(al.add (i * 5)).block, (al.add (i * 5)).off + 3, none⟩ = some (.string x.key) := fun p => (HXC.out p.at_ (HBP.out p)).2.2.2.1
            have s4 : ∀ p : BW w2, p.at_.cell? ⟨(al.add (i * 5)).block, (al.add (i * 5)).off + 4, none⟩ = some (.slice x.ra x.rn x.rc) := fun p => (HXC.out p.at_ (HBP.out p)).2.2.2.2
            obtain ⟨bb, hbb⟩ : ∃ bb, decide (cmpH L x.toHt y.toHt < 0) = bb := ⟨_, rfl⟩
            have HRB : Hid ((bb = true → 0 < k + 1 ∧ ∀ j z, k + 1 - 1 ≤ j → ys[j]? = some z → cH x z < 0) ∧ (bb = false → ∀ z, 0 < k + 1 → ys[k + 1 - 1]? = some z → 0 ≤ cH x z)) := by
              rw [HCE.out] at hbb
              refine ⟨fun h => ⟨by omega, fun j z hj hz => ?_⟩, fun h z _ hz => ?_⟩
              · by_cases e : j = k
                · subst e
                  rw [hy] at hz
                  cases hz
                  rw [h] at hbb
                  exact of_decide_eq_true hbb
                · exact HAL.out j z (by omega) hz
              · rw [Nat.add_sub_cancel, hy] at hz
                cases hz
                rw [h] at hbb
                have := of_decide_eq_false hbb
                omega
            rw [hbb] at HCL
            clear hy hbb q0 qj q1 q2 q3 q4 q0' HBWX HBP HBD HAL hbo
            have hkm : (k : Int) < (i : Int) := by omega
            have hkA : (0 : Int) ≤ (k : Int) := by omega
            have ek : (k : Int) + 1 - 1 = (k : Int) := by omega
            have hj0 : decide ((0 : Int) < (k : Int) + 1) = true := decide_eq_true (by omega)
            have hj1 : (0 : Int) < (k : Int) + 1 := by omega
            have rk : IntKind.i64.wrap (k : Int) = (k : Int) := by rw [IntKind.wrap_i64]; omega
            go_wp2_with fail
            refine wp_region_quiet_below (by kernel_rfl) (by kernel_rfl) ?_
            repeat (go_big_quiet_step ((exact below_quiet (HCL.out _))))
            refine wpQuiet_nil ?_
            intro w3 hw'
            have hb3 := bw_below hw'
            clear hw'
            have HBX : Hid (Below w1.heap.size w1 w3) := HB2.out.trans (hb3.mono HB2.out.size)
            clear hb3
            go_wp2
            go_meet
            exact ⟨bb, rfl, HRB, HBX⟩
        case rest =>
          clear HB2
          obtain ⟨bb, rfl, HBB, HB2⟩ := hcut
          cases bb with
          | true =>
            have ha0 := (HBB.out.1 rfl).1
            have HP2 := Lib.hid (HBB.out.1 rfl).2
            clear HBB
            go_wp2
            go_roundw
            case rel => exact ⟨m - 1, by omega, by first | rfl | go_num | (congr 1; omega), HP2, HB2⟩
            case measure => simp [intOf]; omega
          | false =>
            have HPF := Lib.hid (HBB.out.2 rfl)
            obtain ⟨w3, hw3⟩ : ∃ w3, wc = w3 := ⟨_, rfl⟩
            rw [hw3] at HB2 ⊢
            clear hw3
            have HBW3 : Hid (Below w.heap.size w w3) := HBW.out.trans (HB2.out.mono HBW.out.size)
            have HINS : Hid (StableOf cH (l.take (i + 1)) (ys.take m ++ x :: ys.drop m)) := stable_insert HCI.out HST.out HX.out (by rw [HYL.out]; exact hm) HPF.out HAL.out
            have HR1 : Hid (Reads w3 w1.heap.size 5 AO m ((ys.take m).flatMap encH)) := Reads.takeR encH_len (HRO.out.1.below HB2.out) hm
            have HR2 : Hid (∀ W, Below w3.heap.size w3 W → Reads W w1.heap.size 5 (if co = m then AO else Option.map (fun x => x.add (m * 5)) AO) (i - m) ((ys.drop m).flatMap encH)) := fun W hW => Reads.cutR encH_len (HRO.out.1.below (HB2.out.trans (hW.mono HB2.out.size))) hm hco
            have HN0 : Hid (World.ownsRow w3 w3.heap.size 33 5 (.slice none 0 0) 0 []) := World.ownsRow_nil _ _ _ _
            have hka : (0 : Int) ≤ (m : Int) := by omega
            have hkm : (m : Int) ≤ (i : Int) := by omega
            have hkc : (m : Int) ≤ (co : Int) := by omega
            have hmcz : (i : Int) ≤ (co : Int) := by omega
            have HTL : Hid ((ys.take m).length = m) := by show _ = _; rw [List.length_take, HYL.out]; omega
            clear HBB HPF HAL
            go_wp2_with (first | (at_builtin; refine wpList_appR rfl (.tmp 34) (.tmp 37) 36 rfl w3.heap.size 33 5 80 _ info_hit rfl (by omega) Tryd.underlying36 rfl HN0.out (A := AO) (m := m) (c := co) rfl HR1.out (one_hits _) (by omega) (by omega) (Nat.le_refl _) ?_; intro v1 w4 hown4 hg4 hat4; have HB4 : Hid (Below w3.heap.size w3 w4) := below_app (Below.refl _ w3) HN0.out hg4 (Nat.le_refl _) (Nat.le_refl _); have HO4 : Hid (World.ownsRow w4 w3.heap.size 33 5 v1 m ((ys.take m).flatMap encH)) := (by (have h9 := hown4; rw [Nat.zero_add, List.nil_append] at h9; exact h9)); have e4 := HXC.out w4 (HBW3.out.trans (HB4.out.mono HBW3.out.size)); obtain ⟨e40, e41, e42, e43, e44⟩ := e4; clear hown4 hg4 hat4 HN0) | (at_builtin; refine wpList_appN rfl (.tmp 39) (.tmp 44) 36 rfl w3.heap.size 33 5 80 _ info_hit rfl (by omega) Tryd.underlying36 rfl HO4.out rfl rfl (by simp [Value.oneCell']) (by omega) (by omega) HB4.out.size ?_; intro v2 w5 hown5 hb5; have HB5 : Hid (Below w3.heap.size w3 w5) := HB4.out.trans hb5; have HO5 : Hid (World.ownsRow w5 w3.heap.size 33 5 v2 (m + 1) ((ys.take m ++ [x]).flatMap encH)) := (by (show World.ownsRow _ _ _ _ _ _ _; have h9 := hown5; rw [List.flatMap_append]; simpa [encH] using h9)); clear hown5 hb5 HO4 HB4 e40 e41 e42 e43 e44) | (at_builtin; refine wpList_appR rfl (.tmp 46) (.tmp 49) 36 rfl w3.heap.size 33 5 80 _ info_hit rfl (by omega) Tryd.underlying36 rfl HO5.out (A := if co = m then AO else Option.map (fun x => x.add (m * 5)) AO) (m := i - m) (c := co - m) rfl (HR2.out _ HB5.out) (one_hits _) (by omega) (by omega) HB5.out.size ?_; intro v3 w6 hown6 hg6 hat6; have HB6 : Hid (Below w3.heap.size w3 w6) := below_app HB5.out HO5.out hg6 (Nat.le_refl _) HB5.out.size; have HO6 : Hid (OwnR encH 5 33 w6 w3.heap.size v3 (ys.take m ++ x :: ys.drop m)) := (by (show World.ownsRow _ _ _ _ _ _ _; have h9 := hown6; rw [show ys.take m ++ x :: ys.drop m = ys.take m ++ [x] ++ ys.drop m by simp, List.length_append, List.length_append, HTL.out, List.length_drop, HYL.out, List.flatMap_append]; exact h9)); clear hown6 hg6 hat6 HO5 HB5))
            have HO9 : Hid (OwnR encH 5 33 w6 W0.heap.size v3 (ys.take m ++ x :: ys.drop m)) := own_base HO6.out (by have := HB1.out.size; have := HB2.out.size; omega)
            have HB9 : Hid (Below W0.heap.size W0 w6) := HB1.out.trans ((HB2.out.trans (HB6.out.mono HB2.out.size)).mono HB1.out.size)
            clear HO6 HB6 HR1 HR2 HRO HST
            go_wp2
            go_roundw
            case rel => exact ⟨i + 1, _, HI.out, by go_num, HO9, HINS, HB9⟩
            case measure => have := HI.out; simp [intOf]; omega
    · obtain rfl : n = i := by omega
      have hiz : ¬ (n : Int) < (n : Int) := by omega
      have HST2 : Hid (StableOf cH l ys) := by
        have e1 := HST.out
        rw [List.take_of_length_le (by rw [HLN.out]; exact Nat.le_refl _)] at e1
        exact e1
      go_wp2
      go_ret
      exact ⟨_, rfl, ys, own_base HO.out (by omega), HST2.out, fun x hx => (HH.out.2 x (HST2.out.perm.mem_iff.1 hx)).on HBW.out, HBW.out⟩
end Go.Proofs.YtdpllfgnppeneaaDoor
