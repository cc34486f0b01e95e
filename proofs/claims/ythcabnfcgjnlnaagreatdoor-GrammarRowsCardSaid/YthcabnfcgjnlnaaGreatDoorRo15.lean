import Derived.Test.YthcabnfcgjnlnaaGreatDoorRo14
/-
  GrammarRows: the law, walked.
-/
namespace Go.Proofs.YthcabnfcgjnlnaaGreatDoor
open Go.RowKit Ru Lay
attribute [local go_sem ↓] Go.wp_at_zero Go.wp_at_succ
set_option linter.unusedVariables false
set_option linter.unusedSimpArgs false

/-- Rows that lie somewhere. -/
def RwO (L : List (List ByteArray)) (v : Value) (W : World) : Prop := ∃ A n c, v = .slice A n c ∧ RowsC W W.heap.size A n L ∧ n ≤ 9223372036854775807
theorem RwO.on {L : List (List ByteArray)} {v : Value} {W W' : World} (h : RwO L v W) (hb : Below W.heap.size W W') : RwO L v W' := by
  obtain ⟨A, n, c, e, hr, hn⟩ := h
  exact ⟨A, n, c, e, hr.on hb, hn⟩
theorem RwO.of {T : List Ti} {l : List Nt} {id : Int} {K : Nat} {e : Ending} {W : World} (h : RowsV (getN l id).isSome (rowsL T l id K) e W) : ∃ v, e = .returned v ∧ RwO (rowsL T l id K) v W := by
  cases hb : (getN l id).isSome with
  | false =>
    have h0 : rowsL T l id K = [] := by unfold rowsL; rw [hb]; rfl
    rw [h0]
    exact ⟨_, h.1 hb, none, 0, 0, rfl, RowsC.none_ _ _, by omega⟩
  | true =>
    obtain ⟨g, n, c, e1, h1, h2, h3⟩ := h.2 hb
    exact ⟨_, e1, _, _, _, rfl, h1, by omega⟩
theorem rows55_same (A B : Option Addr) (n m c d : Nat) (xs : List (List ByteArray)) (w : World) (ha : RowsC w w.heap.size A n xs) (hb : RowsC w w.heap.size B m xs) (hn : n ≤ 9223372036854775807) (hm : m ≤ 9223372036854775807) :
    Calls Tryz.prog 18 #[.slice A n c, .slice B m d] w fun e w' => e = .returned (.bool true) ∧ Below w.heap.size w w' :=
  (rows55_any A B n m c d xs xs w ha hb hn hm).mono fun e w' ⟨h1, h2⟩ => ⟨by rw [h1, decide_eq_true rfl], h2⟩

set_option maxHeartbeats 4000000 in
set_option maxRecDepth 100000 in
theorem grammarRows_any (d : Dv) (T : List Ti) (l : List Nt) (id : Int) (w : World) (hT : TiersR w w.heap.size d.ta d.tn T) (hl : NotesR w w.heap.size d.na d.nn l) (hnn : d.nn ≤ 9223372036854775807) (htb : Tabs w) (hpw : Pow w) :
    Calls Tryz.prog 4 #[docV d, .int .i64 id] w fun e w' => e = .returned (.bool true) ∧ Below w.heap.size w w' := by
  have HAW := Lib.hid fun (W : World) (hW : Below w.heap.size w W) => awake55_any W (htb.on hW) (hpw.on hW)
  have HLT := Lib.hid fun (W : World) (hW : Below w.heap.size w W) => lightD_any d T l W (hT.on hW) (hl.on hW)
  have H1 := Lib.hid fun (hL : DocOk T l) (h14 : d.nn ≤ 14) (h6 : d.tn ≤ 6) (W : World) (hW : Below w.heap.size w W) => rowsP_any d T l id T.length W (hT.on hW) (hl.on hW) hL.light hL.up (by omega) (by omega) hL.stop (by have := hT.len; omega) (fun y hy => hL.text hy)
  have H2 := Lib.hid fun (hL : DocOk T l) (h14 : d.nn ≤ 14) (h6 : d.tn ≤ 6) (W : World) (hW : Below w.heap.size w W) => refRows_any d T l id T.length W (hT.on hW) (hl.on hW) hL (by omega) (by omega) hL.stop (by have := hT.len; omega)
  clear hT hl htb hpw
  unfold docV at HLT H1 H2
  unfold docV
  obtain ⟨rid, name, len, day, sa, sn, sc, ta, tn, tc, na, nn, nc⟩ := d
  simp only at *
  obtain ⟨W0, hW0, hz0, hB0, hK0⟩ := doc_cells w rid name len day sa ta na sn sc tn tc nn nc
  have HB := Lib.hid hB0
  have HK := Lib.hid hK0
  clear hB0 hK0
  go_enter Tryz.func4, Tryz.ntmps4
  go_upto_region 1 with fail
  (try rw [hW0])
  clear hW0
  have k0 : W0.cell? ⟨w.heap.size, 0, none⟩ = some (.int .i64 rid) := HK.out W0 (Below.refl _ _) 0 _ rfl
  have k1 : W0.cell? ⟨w.heap.size, 1, none⟩ = some (.string name) := HK.out W0 (Below.refl _ _) 1 _ rfl
  have k2 : W0.cell? ⟨w.heap.size, 2, none⟩ = some (.int .i64 len) := HK.out W0 (Below.refl _ _) 2 _ rfl
  have k3 : W0.cell? ⟨w.heap.size, 3, none⟩ = some (.int .i64 day) := HK.out W0 (Below.refl _ _) 3 _ rfl
  have k4 : W0.cell? ⟨w.heap.size, 4, none⟩ = some (.slice sa sn sc) := HK.out W0 (Below.refl _ _) 4 _ rfl
  have k5 : W0.cell? ⟨w.heap.size, 5, none⟩ = some (.slice ta tn tc) := HK.out W0 (Below.refl _ _) 5 _ rfl
  have k6 : W0.cell? ⟨w.heap.size, 6, none⟩ = some (.slice na nn nc) := HK.out W0 (Below.refl _ _) 6 _ rfl
  go_wp2_with fail
  refine (HLT.out W0 HB.out).mono ?_
  rintro e w3 ⟨b, rfl, hlf, hb3⟩
  have HLF := Lib.hid hlf
  have HB3 : Hid (Below W0.heap.size W0 w3) := hb3
  clear hb3 hlf k0 k1 k2 k3 k4 k5 k6 HLT
  cases b with
  | false =>
    go_wp2_with fail
    refine (HAW.out w3 (HB.out.trans (HB3.out.mono HB.out.size))).mono ?_
    rintro e w5 ⟨rfl, hb5⟩
    have HB5 : Hid (Below w.heap.size w w5) := (HB.out.trans (HB3.out.mono HB.out.size)).trans (hb5.mono (Nat.le_trans HB.out.size HB3.out.size))
    clear hb5
    go_wp2
    go_ret
    exact ⟨rfl, HB5.out⟩
  | true =>
    obtain ⟨⟨h14, h6⟩, hok⟩ := HLF.out rfl
    have HBW : Hid (∀ W, Below w3.heap.size w3 W → Below w.heap.size w W) := fun W hW => (HB.out.trans (HB3.out.mono HB.out.size)).trans (hW.mono (Nat.le_trans HB.out.size HB3.out.size))
    have HP := Lib.hid fun (W : World) (hW : Below w3.heap.size w3 W) => H1.out hok h14 h6 W (HBW.out W hW)
    have HR := Lib.hid fun (W : World) (hW : Below w3.heap.size w3 W) => H2.out hok h14 h6 W (HBW.out W hW)
    have HA := Lib.hid fun (W : World) (hW : Below w3.heap.size w3 W) => HAW.out W (HBW.out W hW)
    have HDD : Hid (∀ W, Below w3.heap.size w3 W → W.rangeAt w.heap.size 0 [.int .i64 rid, .string name, .int .i64 len, .int .i64 day, .slice sa sn sc, .slice ta tn tc, .slice na nn nc]) := fun W hW => HK.out W (HB3.out.trans (hW.mono HB3.out.size))
    clear hok HLF H1 H2 HK HAW
    go_upto_region 3 with fail
    refine wp_region_told [Told.is (.agg #[.int .i64 rid, .string name, .int .i64 len, .int .i64 day, .slice sa sn sc, .slice ta tn tc, .slice na nn nc]), Told.is (.int .i64 id), Told.such (fun v W => RwO (rowsL T l id T.length) v W) (fun v W W' h hb => h.on hb), Told.is (.agg #[.int .i64 rid, .string name, .int .i64 len, .int .i64 day, .slice sa sn sc, .slice ta tn tc, .slice na nn nc]), Told.is (.int .i64 id), Told.such (fun v W => RwO (rowsL T l id T.length) v W) (fun v W W' h hb => h.on hb), Told.is (.bool true), Told.is (.bool true), Told.is (.bool true), Told.is (.bool true), Told.is (.bool true)] (by kernel_rfl) (by kernel_rfl) ?_ ?_
    · refine And.intro (fun w1 vals hB hd K hK => ?_) ?_
      · clear hd
        simp only [putAll, Act.put, List.setIfInBounds_toArray, List.set_cons_zero, List.set_cons_succ] at hK ⊢
        obtain ⟨ve, hve⟩ : ∃ f : Nat → Value, f = vals := ⟨_, rfl⟩
        rw [← hve] at hK  ⊢
        clear hve
        refine gwp_none rfl ?_
        refine wp_load_mid 38 (.tmp 2) rfl w.heap.size 0 rfl [.int .i64 rid, .string name, .int .i64 len, .int .i64 day, .slice sa sn sc, .slice ta tn tc, .slice na nn nc] _ (HDD.out w1 hB) Tryz.underlying38 rfl (by kernel_rfl) ?_
        simp only [Act.put, List.setIfInBounds_toArray, List.set_cons_zero, List.set_cons_succ]
        exact hK _ _ rfl (Below.refl _ _)
      refine And.intro (fun w1 vals hB hd K hK => ?_) ?_
      · clear hd
        simp only [putAll, Act.put, List.setIfInBounds_toArray, List.set_cons_zero, List.set_cons_succ] at hK ⊢
        obtain ⟨ve, hve⟩ : ∃ f : Nat → Value, f = vals := ⟨_, rfl⟩
        rw [← hve] at hK  ⊢
        clear hve
        refine gwp_none rfl ?_
        go_simp
        exact hK _ _ rfl (Below.refl _ _)
      refine And.intro (fun w1 vals hB hd K hK => ?_) ?_
      · have e0 : vals 0 = .agg #[.int .i64 rid, .string name, .int .i64 len, .int .i64 day, .slice sa sn sc, .slice ta tn tc, .slice na nn nc] := told_at (hd 0 rfl) rfl
        have e1 : vals 1 = .int .i64 id := told_at (hd 1 rfl) rfl
        clear hd
        simp only [putAll, Act.put, List.setIfInBounds_toArray, List.set_cons_zero, List.set_cons_succ] at hK ⊢
        simp only [e0, e1] at hK ⊢
        obtain ⟨ve, hve⟩ : ∃ f : Nat → Value, f = vals := ⟨_, rfl⟩
        rw [← hve] at hK  ⊢
        clear e0 e1 hve
        refine gwp_none rfl ?_
        go_simp
        refine (HP.out w1 hB).mono ?_
        rintro e w4 ⟨hv, hb4⟩
        obtain ⟨v, rfl, hO⟩ := RwO.of hv
        exact hK _ _ hO hb4
      refine And.intro (fun w1 vals hB hd K hK => ?_) ?_
      · clear hd
        simp only [putAll, Act.put, List.setIfInBounds_toArray, List.set_cons_zero, List.set_cons_succ] at hK ⊢
        obtain ⟨ve, hve⟩ : ∃ f : Nat → Value, f = vals := ⟨_, rfl⟩
        rw [← hve] at hK  ⊢
        clear hve
        refine gwp_none rfl ?_
        refine wp_load_mid 38 (.tmp 2) rfl w.heap.size 0 rfl [.int .i64 rid, .string name, .int .i64 len, .int .i64 day, .slice sa sn sc, .slice ta tn tc, .slice na nn nc] _ (HDD.out w1 hB) Tryz.underlying38 rfl (by kernel_rfl) ?_
        simp only [Act.put, List.setIfInBounds_toArray, List.set_cons_zero, List.set_cons_succ]
        exact hK _ _ rfl (Below.refl _ _)
      refine And.intro (fun w1 vals hB hd K hK => ?_) ?_
      · clear hd
        simp only [putAll, Act.put, List.setIfInBounds_toArray, List.set_cons_zero, List.set_cons_succ] at hK ⊢
        obtain ⟨ve, hve⟩ : ∃ f : Nat → Value, f = vals := ⟨_, rfl⟩
        rw [← hve] at hK  ⊢
        clear hve
        refine gwp_none rfl ?_
        go_simp
        exact hK _ _ rfl (Below.refl _ _)
      refine And.intro (fun w1 vals hB hd K hK => ?_) ?_
      · have e3 : vals 3 = .agg #[.int .i64 rid, .string name, .int .i64 len, .int .i64 day, .slice sa sn sc, .slice ta tn tc, .slice na nn nc] := told_at (hd 3 rfl) rfl
        have e4 : vals 4 = .int .i64 id := told_at (hd 4 rfl) rfl
        clear hd
        simp only [putAll, Act.put, List.setIfInBounds_toArray, List.set_cons_zero, List.set_cons_succ] at hK ⊢
        simp only [e3, e4] at hK ⊢
        obtain ⟨ve, hve⟩ : ∃ f : Nat → Value, f = vals := ⟨_, rfl⟩
        rw [← hve] at hK  ⊢
        clear e3 e4 hve
        refine gwp_none rfl ?_
        go_simp
        refine (HR.out w1 hB).mono ?_
        rintro e w4 ⟨hv, hb4⟩
        obtain ⟨v, rfl, hO⟩ := RwO.of hv
        exact hK _ _ hO hb4
      refine And.intro (fun w1 vals hB hd K hK => ?_) ?_
      · have p2 := told_at (t := Told.such (fun v W => RwO (rowsL T l id T.length) v W) (fun v W W' h hb => h.on hb)) (hd 2 rfl) rfl
        simp only [Told.holds] at p2
        have p5 := told_at (t := Told.such (fun v W => RwO (rowsL T l id T.length) v W) (fun v W W' h hb => h.on hb)) (hd 5 rfl) rfl
        simp only [Told.holds] at p5
        clear hd
        generalize hx2 : vals 2 = x2
        rw [hx2] at p2
        generalize hx5 : vals 5 = x5
        rw [hx5] at p5
        simp only [putAll, Act.put, List.setIfInBounds_toArray, List.set_cons_zero, List.set_cons_succ] at hK ⊢
        simp only [hx2, hx5] at hK ⊢
        obtain ⟨ve, hve⟩ : ∃ f : Nat → Value, f = vals := ⟨_, rfl⟩
        rw [← hve] at hK  ⊢
        clear hx2 hx5 hve
        refine gwp_none rfl ?_
        obtain ⟨A1, n1, c1, rfl, h1r, h1n⟩ := p2
        obtain ⟨A2, n2, c2, rfl, h2r, h2n⟩ := p5
        go_simp
        refine (rows55_same A1 A2 _ _ c1 c2 _ w1 h1r h2r h1n h2n).mono ?_
        rintro e w4 ⟨rfl, hb4⟩
        exact hK _ _ rfl hb4
      refine And.intro (fun w1 vals hB hd K hK => ?_) ?_
      · have e6 : vals 6 = .bool true := told_at (hd 6 rfl) rfl
        clear hd
        simp only [putAll, Act.put, List.setIfInBounds_toArray, List.set_cons_zero, List.set_cons_succ] at hK ⊢
        simp only [e6] at hK ⊢
        obtain ⟨ve, hve⟩ : ∃ f : Nat → Value, f = vals := ⟨_, rfl⟩
        rw [← hve] at hK  ⊢
        clear e6 hve
        refine gwp_none rfl ?_
        go_simp
        exact hK _ _ rfl (Below.refl _ _)
      refine And.intro (fun w1 vals hB hd K hK => ?_) ?_
      · have g7 : vals 7 = .bool true := told_at (hd 7 rfl) rfl
        clear hd
        simp only [putAll, Act.put, List.setIfInBounds_toArray, List.set_cons_zero, List.set_cons_succ] at hK ⊢
        obtain ⟨ve, hve⟩ : ∃ f : Nat → Value, f = vals := ⟨_, rfl⟩
        rw [← hve] at hK g7 ⊢
        clear hve
        refine gwp_some rfl g7 ?_
        clear g7
        go_simp
        refine (HA.out w1 hB).mono ?_
        rintro e w4 ⟨rfl, hb4⟩
        exact hK _ _ rfl hb4
      refine And.intro (fun w1 vals hB hd K hK => ?_) ?_
      · have e7 : vals 7 = .bool true := told_at (hd 7 rfl) rfl
        have e8 : vals 8 = .bool true := told_at (hd 8 rfl) rfl
        clear hd
        simp only [putAll, Act.put, List.setIfInBounds_toArray, List.set_cons_zero, List.set_cons_succ] at hK ⊢
        simp only [e7, e8] at hK ⊢
        obtain ⟨ve, hve⟩ : ∃ f : Nat → Value, f = vals := ⟨_, rfl⟩
        rw [← hve] at hK  ⊢
        clear e7 e8 hve
        refine gwp_none rfl ?_
        go_simp
        exact hK _ _ rfl (Below.refl _ _)
      refine And.intro (fun w1 vals hB hd K hK => ?_) ?_
      · have e9 : vals 9 = .bool true := told_at (hd 9 rfl) rfl
        clear hd
        simp only [putAll, Act.put, List.setIfInBounds_toArray, List.set_cons_zero, List.set_cons_succ] at hK ⊢
        simp only [e9] at hK ⊢
        obtain ⟨ve, hve⟩ : ∃ f : Nat → Value, f = vals := ⟨_, rfl⟩
        rw [← hve] at hK  ⊢
        clear e9 hve
        refine gwp_none rfl ?_
        go_simp
        exact hK _ _ rfl (Below.refl _ _)
      exact trivial
    · intro w1 vals hB hd
      have e10 : vals 10 = .bool true := told_at (hd 10 (by decide)) rfl
      clear hd
      simp only [putAll, Act.put, List.setIfInBounds_toArray, List.set_cons_zero, List.set_cons_succ]
      simp only [e10]
      obtain ⟨ve, hve⟩ : ∃ f : Nat → Value, f = vals := ⟨_, rfl⟩
      rw [← hve]
      clear e10 hve
      have HBE := Lib.hid (HBW.out w1 hB)
      clear hB
      go_wp2
      go_ret
      exact ⟨rfl, HBE.out⟩
end Go.Proofs.YthcabnfcgjnlnaaGreatDoor
