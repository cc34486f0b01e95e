import Derived.Test.YthcabnfcgjnlnaaGreatDoorEx02
set_option linter.unusedVariables false
set_option linter.unusedSimpArgs false
namespace Go.Proofs.YthcabnfcgjnlnaaGreatDoor
open Go.RowKit Ru Lay
attribute [local go_sem ↓] Go.wp_at_zero Go.wp_at_succ
def SsO (L : List ByteArray) (v : Value) (W : World) : Prop := ∃ A n c, v = .slice A n c ∧ SR W W.heap.size A n L ∧ n ≤ 9223372036854775807
theorem SsO.on {L : List ByteArray} {v : Value} {W W' : World} (h : SsO L v W) (hb : Below W.heap.size W W') : SsO L v W' := by
 obtain ⟨A, n, c, e, hr, hn⟩ := h
 exact ⟨A, n, c, e, hr.on hb, hn⟩
theorem SsO.of {L : List ByteArray} {v : Value} {W : World} {b : Nat} (h : OwnS W b v L) : SsO L v W := by
 obtain ⟨A, c, e, h1, h2, h3⟩ := OwnS.form h
 exact ⟨A, L.length, c, e, h3, by omega⟩
theorem strs_same (A B : Option Addr) (n m c d : Nat) (xs : List ByteArray) (w : World) (ha : SR w w.heap.size A n xs) (hb : SR w w.heap.size B m xs) (hn : n ≤ 9223372036854775807) (hm : m ≤ 9223372036854775807) :
  Calls Tryz.prog 21 #[.slice A n c, .slice B m d] w fun e w' => e = .returned (.bool true) ∧ Below w.heap.size w w' :=
 (same_strs A B n m c d xs xs w ha hb hn hm).mono fun e w' ⟨h1, k, h2⟩ => ⟨by rw [h1, decide_eq_true rfl], by rw [h2]; exact below_drewN (Below.refl _ _) k⟩
set_option maxHeartbeats 4000000 in
set_option maxRecDepth 100000 in
theorem grammarExamples_any (d : Dv) (T : List Ti) (l : List Nt) (id WD : Int) (w : World) (hT : TiersR w w.heap.size d.ta d.tn T) (hl : NotesR w w.heap.size d.na d.nn l) (hnn : d.nn ≤ 9223372036854775807) (hWD : WD ≤ 9223372036854775807) (htb : Tabs w) (hpw : Pow w) :
  Calls Tryz.prog 5 #[docV d, .int .i64 id, .int .i64 WD] w fun e w' => e = .returned (.bool true) ∧ Below w.heap.size w w' := by
 have HAW := Lib.hid fun (W : World) (hW : Below w.heap.size w W) => awake55_any W (htb.on hW) (hpw.on hW)
 have HLT := Lib.hid fun (W : World) (hW : Below w.heap.size w W) => lightD_any d T l W (hT.on hW) (hl.on hW)
 have H1 := Lib.hid fun (hL : DocOk T l) (h14 : d.nn ≤ 14) (h6 : d.tn ≤ 6) (W : World) (hW : Below w.heap.size w W) => example_any d T l id T.length WD W (hT.on hW) (hl.on hW) hL.light hL.up (by omega) (by omega) hL.stop (by have := hT.len; omega) (fun y hy => hL.text hy) hWD (htb.on hW)
 have H2 := Lib.hid fun (hL : DocOk T l) (h14 : d.nn ≤ 14) (h6 : d.tn ≤ 6) (W : World) (hW : Below w.heap.size w W) => refExample_any d T l id T.length WD W (hT.on hW) (hl.on hW) hL (by omega) (by omega) hL.stop (by have := hT.len; omega) hWD
 clear hT hl htb hpw
 unfold docV at HLT H1 H2
 unfold docV
 obtain ⟨rid, name, len, day, sa, sn, sc, ta, tn, tc, na, nn, nc⟩ := d
 simp only at *
 obtain ⟨W0, hW0, hz0, hB0, hK0⟩ := doc_cells w rid name len day sa ta na sn sc tn tc nn nc
 have HB := Lib.hid hB0
 have HK := Lib.hid hK0
 clear hB0 hK0
 go_enter Tryz.func5, Tryz.ntmps5
 go_upto_region 1 with fail
 (try rw [hW0])
 clear hW0
 obtain ⟨k0, k1, k2, k3, k4, k5, k6⟩ := range7 (HK.out W0 (Below.refl _ _))
 go_wp2_with fail
 refine (HLT.out W0 HB.out).mono ?_
 rintro e w3 ⟨b, rfl, hlf, hb3⟩
 have HLF := Lib.hid hlf
 have HB3 : Hid (Below W0.heap.size W0 w3) := hb3
 clear hb3 hlf k0 k1 k2 k3 k4 k5 k6 HLT
 cases b with
 | false =>
  go_wp2_with fail
  refine (HAW.out w3 (HB.out.trans (HB3.out.mono HB.out.size))).mono ?_
  rintro e w5 ⟨rfl, hb5⟩
  have HB5 : Hid (Below w.heap.size w w5) := (HB.out.trans (HB3.out.mono HB.out.size)).trans (hb5.mono (Nat.le_trans HB.out.size HB3.out.size))
  clear hb5
  go_wp2
  go_ret
  exact ⟨rfl, HB5.out⟩
 | true =>
  obtain ⟨⟨h14, h6⟩, hok⟩ := HLF.out rfl
  have HBW : Hid (∀ W, Below w3.heap.size w3 W → Below w.heap.size w W) := fun W hW => (HB.out.trans (HB3.out.mono HB.out.size)).trans (hW.mono (Nat.le_trans HB.out.size HB3.out.size))
  have HP := Lib.hid fun (W : World) (hW : Below w3.heap.size w3 W) => H1.out hok h14 h6 W (HBW.out W hW)
  have HR := Lib.hid fun (W : World) (hW : Below w3.heap.size w3 W) => H2.out hok h14 h6 W (HBW.out W hW)
  have HA := Lib.hid fun (W : World) (hW : Below w3.heap.size w3 W) => HAW.out W (HBW.out W hW)
  have HDD : Hid (∀ W, Below w3.heap.size w3 W → W.rangeAt w.heap.size 0 [.int .i64 rid, .string name, .int .i64 len, .int .i64 day, .slice sa sn sc, .slice ta tn tc, .slice na nn nc]) := fun W hW => HK.out W (HB3.out.trans (hW.mono HB3.out.size))
  clear hok HLF H1 H2 HK HAW
  go_upto_region 3 with fail
  refine wp_region_told [Told.is (.agg #[.int .i64 rid, .string name, .int .i64 len, .int .i64 day, .slice sa sn sc, .slice ta tn tc, .slice na nn nc]), Told.is (.int .i64 id), Told.is (.int .i64 WD), Told.such (fun v W => SsO (exL T l id T.length WD) v W) (fun v W W' h hb => h.on hb), Told.is (.agg #[.int .i64 rid, .string name, .int .i64 len, .int .i64 day, .slice sa sn sc, .slice ta tn tc, .slice na nn nc]), Told.is (.int .i64 id), Told.is (.int .i64 WD), Told.such (fun v W => SsO (exL T l id T.length WD) v W) (fun v W W' h hb => h.on hb), Told.is (.bool true), Told.is (.bool true), Told.is (.bool true), Told.is (.bool true), Told.is (.bool true)] (by kernel_rfl) (by kernel_rfl) ?_ ?_
  ·refine And.intro (fun w1 vals hB hd K hK => ?_) ?_
   ·clear hd
    simp only [putAll, Act.put, pS] at hK ⊢
    refine gwp_none rfl ?_
    refine wp_load_mid 38 (.tmp 3) rfl w.heap.size 0 rfl [.int .i64 rid, .string name, .int .i64 len, .int .i64 day, .slice sa sn sc, .slice ta tn tc, .slice na nn nc] _ (HDD.out w1 hB) Tryz.underlying38 rfl (by kernel_rfl) ?_
    simp only [Act.put, pS]
    exact hK _ _ rfl (Below.refl _ _)
   refine And.intro (fun w1 vals hB hd K hK => ?_) ?_
   ·clear hd
    simp only [putAll, Act.put, pS] at hK ⊢
    refine gwp_none rfl ?_
    go_simp
    exact hK _ _ rfl (Below.refl _ _)
   refine And.intro (fun w1 vals hB hd K hK => ?_) ?_
   ·clear hd
    simp only [putAll, Act.put, pS] at hK ⊢
    refine gwp_none rfl ?_
    go_simp
    exact hK _ _ rfl (Below.refl _ _)
   refine And.intro (fun w1 vals hB hd K hK => ?_) ?_
   ·have e0 : vals 0 = .agg #[.int .i64 rid, .string name, .int .i64 len, .int .i64 day, .slice sa sn sc, .slice ta tn tc, .slice na nn nc] := told_at (hd 0 rfl) rfl
    have e1 : vals 1 = .int .i64 id := told_at (hd 1 rfl) rfl
    have e2 : vals 2 = .int .i64 WD := told_at (hd 2 rfl) rfl
    clear hd
    simp only [putAll, Act.put, pS] at hK ⊢
    simp only [e0, e1, e2] at hK ⊢
    clear e0 e1 e2
    refine gwp_none rfl ?_
    go_simp
    refine (HP.out w1 hB).mono ?_
    rintro e w4 ⟨v, rfl, hO, hb4⟩
    exact hK _ _ (SsO.of hO) hb4
   refine And.intro (fun w1 vals hB hd K hK => ?_) ?_
   ·clear hd
    simp only [putAll, Act.put, pS] at hK ⊢
    refine gwp_none rfl ?_
    refine wp_load_mid 38 (.tmp 3) rfl w.heap.size 0 rfl [.int .i64 rid, .string name, .int .i64 len, .int .i64 day, .slice sa sn sc, .slice ta tn tc, .slice na nn nc] _ (HDD.out w1 hB) Tryz.underlying38 rfl (by kernel_rfl) ?_
    simp only [Act.put, pS]
    exact hK _ _ rfl (Below.refl _ _)
   refine And.intro (fun w1 vals hB hd K hK => ?_) ?_
   ·clear hd
    simp only [putAll, Act.put, pS] at hK ⊢
    refine gwp_none rfl ?_
    go_simp
    exact hK _ _ rfl (Below.refl _ _)
   refine And.intro (fun w1 vals hB hd K hK => ?_) ?_
   ·clear hd
    simp only [putAll, Act.put, pS] at hK ⊢
    refine gwp_none rfl ?_
    go_simp
    exact hK _ _ rfl (Below.refl _ _)
   refine And.intro (fun w1 vals hB hd K hK => ?_) ?_
   ·have e4 : vals 4 = .agg #[.int .i64 rid, .string name, .int .i64 len, .int .i64 day, .slice sa sn sc, .slice ta tn tc, .slice na nn nc] := told_at (hd 4 rfl) rfl
    have e5 : vals 5 = .int .i64 id := told_at (hd 5 rfl) rfl
    have e6 : vals 6 = .int .i64 WD := told_at (hd 6 rfl) rfl
    clear hd
    simp only [putAll, Act.put, pS] at hK ⊢
    simp only [e4, e5, e6] at hK ⊢
    clear e4 e5 e6
    refine gwp_none rfl ?_
    go_simp
    refine (HR.out w1 hB).mono ?_
    rintro e w4 ⟨v, rfl, hO, hb4⟩
    exact hK _ _ (SsO.of hO) hb4
   refine And.intro (fun w1 vals hB hd K hK => ?_) ?_
   ·have p3 := told_at (t := Told.such (fun v W => SsO (exL T l id T.length WD) v W) (fun v W W' h hb => h.on hb)) (hd 3 rfl) rfl
    simp only [Told.holds] at p3
    have p7 := told_at (t := Told.such (fun v W => SsO (exL T l id T.length WD) v W) (fun v W W' h hb => h.on hb)) (hd 7 rfl) rfl
    simp only [Told.holds] at p7
    clear hd
    generalize hx3 : vals 3 = x3
    rw [hx3] at p3
    generalize hx7 : vals 7 = x7
    rw [hx7] at p7
    simp only [putAll, Act.put, pS] at hK ⊢
    simp only [hx3, hx7] at hK ⊢
    clear hx3 hx7
    refine gwp_none rfl ?_
    obtain ⟨A1, n1, c1, rfl, h1r, h1n⟩ := p3
    obtain ⟨A2, n2, c2, rfl, h2r, h2n⟩ := p7
    go_simp
    refine (strs_same A1 A2 _ _ c1 c2 _ w1 h1r h2r h1n h2n).mono ?_
    rintro e w4 ⟨rfl, hb4⟩
    exact hK _ _ rfl hb4
   refine And.intro (fun w1 vals hB hd K hK => ?_) ?_
   ·have e8 : vals 8 = .bool true := told_at (hd 8 rfl) rfl
    clear hd
    simp only [putAll, Act.put, pS] at hK ⊢
    simp only [e8] at hK ⊢
    clear e8
    refine gwp_none rfl ?_
    go_simp
    exact hK _ _ rfl (Below.refl _ _)
   refine And.intro (fun w1 vals hB hd K hK => ?_) ?_
   ·have g9 : vals 9 = .bool true := told_at (hd 9 rfl) rfl
    clear hd
    simp only [putAll, Act.put, pS] at hK ⊢
    refine gwp_some rfl g9 ?_
    clear g9
    go_simp
    refine (HA.out w1 hB).mono ?_
    rintro e w4 ⟨rfl, hb4⟩
    exact hK _ _ rfl hb4
   refine And.intro (fun w1 vals hB hd K hK => ?_) ?_
   ·have e9 : vals 9 = .bool true := told_at (hd 9 rfl) rfl
    have e10 : vals 10 = .bool true := told_at (hd 10 rfl) rfl
    clear hd
    simp only [putAll, Act.put, pS] at hK ⊢
    simp only [e9, e10] at hK ⊢
    clear e9 e10
    refine gwp_none rfl ?_
    go_simp
    exact hK _ _ rfl (Below.refl _ _)
   refine And.intro (fun w1 vals hB hd K hK => ?_) ?_
   ·have e11 : vals 11 = .bool true := told_at (hd 11 rfl) rfl
    clear hd
    simp only [putAll, Act.put, pS] at hK ⊢
    simp only [e11] at hK ⊢
    clear e11
    refine gwp_none rfl ?_
    go_simp
    exact hK _ _ rfl (Below.refl _ _)
   exact trivial
  ·intro w1 vals hB hd
   have e12 : vals 12 = .bool true := told_at (hd 12 (by decide)) rfl
   clear hd
   simp only [putAll, Act.put, pS]
   simp only [e12]
   clear e12
   have HBE := Lib.hid (HBW.out w1 hB)
   clear hB
   go_wp2
   go_ret
   exact ⟨rfl, HBE.out⟩
end Go.Proofs.YthcabnfcgjnlnaaGreatDoor
