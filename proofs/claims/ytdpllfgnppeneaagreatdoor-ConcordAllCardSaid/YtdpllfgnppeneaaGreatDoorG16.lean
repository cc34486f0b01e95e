import Derived.Test.YtdpllfgnppeneaaGreatDoorG15
import Derived.Test.YtdpllfgnppeneaaGreatDoorG09
import Derived.Test.YtdpllfgnppeneaaGreatDoorG13
import Derived.Test.YtdpllfgnppeneaaGreatDoorG06
/-
  concord.Sort of fewer than 20 lines.
-/
namespace Go.Proofs.YtdpllfgnppeneaaGreatDoor
open Go.RowKit Ru Lay Srt Col
attribute [local go_sem ↓] Go.wp_at_zero Go.wp_at_succ
set_option linter.unusedVariables false
set_option linter.unusedSimpArgs false

theorem isCmp_of {α : Type} {c : α → α → Int} (h : IsCmpS c) : IsCmp c := ⟨h.anti, fun x y z h1 h2 => by
  have := h.trans x y z h1 h2
  omega⟩
theorem cmpL_is (L : List (List ByteArray)) : IsCmp (cmpL L) := (isCmp_of (cmpS_is L)).comap (fun x : ByteArray => x.data.toList)
theorem cmpT_anti {c : ByteArray → ByteArray → Int} (h : IsCmp c) : ∀ a b, cmpT c b a = - cmpT c a b
  | [], [] => rfl
  | [], _ :: _ => rfl
  | _ :: _, [] => rfl
  | x :: a, y :: b => by
    have h1 := h.anti x y
    have h2 := cmpT_anti h a b
    show (if c y x = 0 then _ else _) = - (if c x y = 0 then _ else _)
    split <;> split <;> omega
theorem cmpT_trans {c : ByteArray → ByteArray → Int} (h : IsCmp c) : ∀ a b d, cmpT c a b ≤ 0 → cmpT c b d ≤ 0 → cmpT c a d ≤ 0 ∧ (cmpT c a d = 0 → cmpT c a b = 0 ∧ cmpT c b d = 0)
  | [], [], [] => fun _ _ => ⟨Int.le_refl _, fun _ => ⟨rfl, rfl⟩⟩
  | [], [], z :: d => fun _ _ => ⟨by show (-1 : Int) ≤ 0; omega, fun h => by cases h⟩
  | [], y :: b, [] => fun _ h2 => by have : (1 : Int) ≤ 0 := h2; omega
  | [], y :: b, z :: d => fun _ _ => ⟨by show (-1 : Int) ≤ 0; omega, fun h => by cases h⟩
  | x :: a, [], d => fun h1 _ => by have : (1 : Int) ≤ 0 := h1; omega
  | x :: a, y :: b, [] => fun _ h2 => by have : (1 : Int) ≤ 0 := h2; omega
  | x :: a, y :: b, z :: d => by
    have h1 := h.trans x y z
    have h2 := cmpT_trans h a b d
    show (if c x y = 0 then _ else _) ≤ 0 → (if c y z = 0 then _ else _) ≤ 0 → (if c x z = 0 then _ else _) ≤ 0 ∧ ((if c x z = 0 then _ else _) = 0 → (if c x y = 0 then _ else _) = 0 ∧ (if c y z = 0 then _ else _) = 0)
    split <;> split <;> split <;> omega
theorem cmpT_is {c : ByteArray → ByteArray → Int} (h : IsCmp c) : IsCmp (cmpT c) := ⟨cmpT_anti h, cmpT_trans h⟩
theorem cmpH_is (L : List (List ByteArray)) : IsCmp (cmpH L) := by
  have h1 : IsCmp fun a b : Ht => cmpL L a.key b.key := (cmpL_is L).comap Ht.key
  have h2 : IsCmp fun a b : Ht => cmpT (cmpL L) a.right b.right := (cmpT_is (cmpL_is L)).comap Ht.right
  have h3 : IsCmp fun a b : Ht => cmpT (cmpL L) a.left.reverse b.left.reverse := (cmpT_is (cmpL_is L)).comap fun h : Ht => h.left.reverse
  have h4 : IsCmp fun a b : Ht => Lib.compareInt a.rid b.rid := cmpInt_is.comap Ht.rid
  have h5 : IsCmp fun a b : Ht => Lib.compareInt a.nid b.nid := cmpInt_is.comap Ht.nid
  refine isCmp_congr (or_is h1 (or_is h2 (or_is h3 (or_is h4 (or_is h5 zero_is))))) fun x y => ?_
  unfold cmpH
  rw [orI_cons, orI_cons, orI_cons, orI_cons, orI_cons]
  rfl
set_option maxHeartbeats 1000000 in
set_option maxRecDepth 100000 in
theorem sort1_any (nm : ByteArray) (UA LA : Option Addr) (un uc ln lc k : Nat) (L : List (List ByteArray)) (a b : Hv) (w : World) (hbox : BoxOr w k nm UA un uc LA ln lc) (hL : RowsR w w.heap.size LA ln L) (hz : SizedL L) (ha : HvR w w.heap.size a) (hb : HvR w w.heap.size b) (za : HvZ a.toHt) (zb : HvZ b.toHt) :
    Calls Tryz.prog 30 #[.agg #[.int .i64 a.rid, .int .i64 a.nid, .slice a.la a.ln a.lc, .string a.key, .slice a.ra a.rn a.rc], .agg #[.int .i64 b.rid, .int .i64 b.nid, .slice b.la b.ln b.lc, .string b.key, .slice b.ra b.rn b.rc], .pointer (some ⟨k, 0, none⟩)] w fun e w' => e = .returned (.int .i64 (cmpH L a.toHt b.toHt)) ∧ Below w.heap.size w w' := by
  have hbe : Below w.heap.size w ((w.alloc (.cells #[.int .i64 a.rid, .int .i64 a.nid, .slice a.la a.ln a.lc, .string a.key, .slice a.ra a.rn a.rc] 35)).alloc (.cells #[.int .i64 b.rid, .int .i64 b.nid, .slice b.la b.ln b.lc, .string b.key, .slice b.ra b.rn b.rc] 35)) := ((Below.refl _ w).alloc (Nat.le_refl _) _).alloc (by simp) _
  have hc := Lib.hid (cmpH_any nm UA LA un uc ln lc L a b ((w.alloc (.cells #[.int .i64 a.rid, .int .i64 a.nid, .slice a.la a.ln a.lc, .string a.key, .slice a.ra a.rn a.rc] 35)).alloc (.cells #[.int .i64 b.rid, .int .i64 b.nid, .slice b.la b.ln b.lc, .string b.key, .slice b.ra b.rn b.rc] 35)) (rows_more (hL.below hbe) hbe.size) hz (ha.on hbe) (hb.on hbe) za zb)
  obtain ⟨hlt, k0, k1, k2⟩ := hbox.on hbe
  have hkw : k < w.heap.size := hbox.lt
  have HBE := Lib.hid hbe
  clear hbe ha hb hL hbox
  go_enter Tryz.func30, Tryz.ntmps30
  go_wp2_with fail
  refine hc.out.mono ?_
  rintro e w1 ⟨rfl, hb1⟩
  go_wp2
  go_ret
  exact ⟨rfl, HBE.out.trans (hb1.mono HBE.out.size)⟩
theorem one_hits (l : List Hv) : ∀ u ∈ l.flatMap encH, u.oneCell' = true := fun u hu => by
  obtain ⟨x, _, hx⟩ := List.mem_flatMap.1 hu
  simp only [encH, List.mem_cons, List.not_mem_nil, or_false] at hx
  rcases hx with rfl | rfl | rfl | rfl | rfl <;> rfl
set_option maxHeartbeats 400000 in
set_option maxRecDepth 100000 in
theorem clone_hits (A : Option Addr) (n c : Nat) (l : List Hv) (w : World) (h : RecR encH 5 w w.heap.size A n l) (hn : n ≤ 1000) :
    Calls Tryz.prog 47 #[.slice A n c] w fun e w' => ∃ v, e = .returned v ∧ OwnR encH 5 35 w' w.heap.size v l ∧ Below w.heap.size w w' := by
  obtain ⟨i0, hi, hz0, hz1, hz2⟩ := info_parts info_hit
  have he := fun (w : World) (a : Option Addr) (n c : Nat) => Lib.run_eql_slice_nil (P := Tryz.prog) w 41 35 a n c 0 0 Tryz.underlying41
  cases A with
  | none =>
    have h0 : n = 0 := by
      rcases Nat.eq_zero_or_pos n with e | e
      · exact e
      · obtain ⟨ad, hc, _⟩ := h.1.2 e; cases hc
    subst h0
    have hl : l = [] := List.eq_nil_of_length_eq_zero h.2
    subst hl
    go_enter Tryz.func47, Tryz.ntmps47
    go_wp2
    go_ret
    exact ⟨_, rfl, World.ownsRow_nil _ _ _ _, Below.refl _ _⟩
  | some ad =>
    have hcells : ∀ j u, (l.flatMap encH)[j]? = some u → (w.alloc (.cells #[] 35)).cell? (ad.add j) = some u := fun j u hu => by
      have hj := (List.getElem?_eq_some_iff.1 hu).1
      have hl := h.1.1
      rcases Nat.eq_zero_or_pos n with e | e
      · rw [e] at hl; omega
      · obtain ⟨ad', hc, hb, hh⟩ := h.1.2 e
        injection hc with hc
        subst hc
        rw [World.cell?_alloc_lt _ _ _ (by rw [block_of_add]; exact hb)]
        exact hh j u hu
    have HCELL := Lib.hid hcells; clear hcells
    have HL := Lib.hid h.1.1
    have HLN := Lib.hid h.2; clear h
    have H1 := Lib.hid (one_hits l)
    have hown := Lib.hid (World.ownsRow_made (base := w.heap.size) (e := 35) (size := 5) w #[] 0 (Nat.le_refl _) (by unfold maxLen; omega) (by simp))
    go_enter Tryz.func47, Tryz.ntmps47
    go_wp2_with (at_builtin; refine wpList_append_own _ rfl (.tmp 5) (.tmp 6) _ rfl w.heap.size 35 i0 _ 5 80 Tryz.underlying41 hi hz0 hz1 hz2 rfl (by decide) _ 0 [] rfl hown.out ad n c (l.flatMap encH) rfl HL.out HCELL.out H1.out (by unfold maxLen; omega) (by omega) (by simp) ?_; intro v' w1 hown1 hg _)
    simp only [Nat.zero_add, List.nil_append] at hown1
    rw [← HLN.out] at hown1
    go_wp2
    go_ret
    exact ⟨v', rfl, hown1, ((Below.refl _ w).alloc (Nat.le_refl _) _).grown hg (by simp) (fun k e => by cases e; exact Nat.le_refl _)⟩
instance : Inhabited Hv := ⟨{ toHt := ht0, la := none, ln := 0, lc := 0, ra := none, rn := 0, rc := 0 }⟩
/-- What is known of an orthography that lies in a box. -/
structure OrtR (w : World) (B k : Nat) (nm : ByteArray) (UA : Option Addr) (un uc : Nat) (LA : Option Addr) (ln lc : Nat) (L : List (List ByteArray)) : Prop where
  box : BoxOr w k nm UA un uc LA ln lc
  lt : k < B
  rows : RowsR w B LA ln L
theorem OrtR.below {w w' : World} {B k un uc ln lc : Nat} {nm : ByteArray} {UA LA : Option Addr} {L : List (List ByteArray)} (h : OrtR w B k nm UA un uc LA ln lc L) (hb : Below B w w') : OrtR w' B k nm UA un uc LA ln lc L :=
  ⟨⟨Nat.lt_of_lt_of_le h.box.lt hb.size, (hb.cell (p := ⟨k, 0, none⟩) h.lt).trans h.box.k0, (hb.cell (p := ⟨k, 1, none⟩) h.lt).trans h.box.k1, (hb.cell (p := ⟨k, 2, none⟩) h.lt).trans h.box.k2⟩, h.lt, h.rows.below hb⟩
theorem sortedH_any (nm : ByteArray) (UA LA : Option Addr) (un uc ln lc k : Nat) (L : List (List ByteArray)) (base B : Nat) (v : Value) (l : List Hv) (w : World) (ho : OrtR w B k nm UA un uc LA ln lc L) (hz : SizedL L) (h : OwnR encH 5 35 w base v l) (hn : l.length < 20) (hB : B ≤ base) (hBw : B ≤ w.heap.size)
    (hl : ∀ x ∈ l, HvR w B x ∧ HvZ x.toHt) :
    Calls Tryz.prog 48 #[v, .func (.func 30) #[] #[.pointer (some ⟨k, 0, none⟩)]] w fun e w' => ∃ ys, e = .returned (.tuple #[]) ∧ OwnR encH 5 35 w' base v ys ∧ StableOf (fun x y : Hv => cmpH L x.toHt y.toHt) l ys ∧ Below base w w' := by
  rcases Nat.eq_zero_or_pos l.length with e0 | e0
  · have hl := List.eq_nil_of_length_eq_zero e0
    subst hl
    obtain ⟨A, c, rfl, _, _, _⟩ := h.form
    refine (ssfH_none _ A c w).mono ?_
    rintro e w' ⟨rfl, rfl⟩
    exact ⟨[], rfl, h, stable_nil, Below.refl _ _⟩
  · obtain ⟨g, cap, rfl⟩ : ∃ g cap, v = .slice (some ⟨g, 0, none⟩) l.length cap := by
      rcases h.2 with ⟨_, h2⟩ | ⟨g, cap, cur, hv, _⟩
      · omega
      · exact ⟨g, cap, hv⟩
    have hg := (h.lt g rfl).1
    have hS : SK (fun p : Tag Hv => encH p.1) 5 w g 0 l.length (tagged l) w := by
      have h2 := SK.start (enc := encH) (d := fun k => l.getD k default) encH_len (by omega) h (fun j x hx => by rw [List.getD, hx]; rfl)
      exact ⟨h2.os, h2.tape, h2.output, h2.size, h2.block, h2.lt, h2.cells, h2.there, h2.obj⟩
    have hcmp : CmpOKH 30 #[.pointer (some ⟨k, 0, none⟩)] (fun x y : Hv => cmpH L x.toHt y.toHt) (fun x => HvR w B x ∧ HvZ x.toHt) w g 0 l.length := fun W d hW x y hx hy p => by
      have hb1 : Below B w p.at_ := ((hW.belowBase hg).mono hB).trans (p.bel.mono (Nat.le_trans hBw hW.size))
      have ho2 := ho.below hb1
      have hs : B ≤ p.at_.heap.size := Nat.le_trans hBw hb1.size
      exact sort1_any nm UA LA un uc ln lc k L x y p.at_ ho2.box (rows_more ho2.rows hs) hz ((hx.1.below hb1).more hs) ((hy.1.below hb1).more hs) hx.2 hy.2
    refine (ssfH_few (fun x y : Hv => cmpH L x.toHt y.toHt) ((cmpH_is L).comap Hv.toHt) (fun x => HvR w B x ∧ HvZ x.toHt) 30 #[.pointer (some ⟨k, 0, none⟩)] g 0 cap l.length (tagged l) w (enters_of Tryz.func30 (by kernel_rfl) rfl)
      hcmp (fun j hj => by
        show HvR w B (l.getD j default) ∧ HvZ (l.getD j default).toHt
        rw [List.getD, List.getElem?_eq_getElem hj]
        exact hl _ (List.getElem_mem hj)) hS hn (fun _ => rfl)).mono ?_
    rintro e w' ⟨rfl, d', h1, h2, h3⟩
    have hst := stableOf_of (c := fun x y : Hv => cmpH L x.toHt y.toHt) (xs := l) (d := d') h2 h3
    have h4 : SK encH 5 w g 0 l.length (fun k => (d' k).1) w' := ⟨h1.os, h1.tape, h1.output, h1.size, h1.block, h1.lt, h1.cells, h1.there, h1.obj⟩
    have hlen : ((listOf d' l.length).map (·.1)).length = l.length := by simp [listOf]
    have h5 := h4.owned encH_len (by omega) h hlen (fun j hj => by simp [listOf, hj])
    refine ⟨_, rfl, ?_, hst, h1.belowBase hg⟩
    show World.ownsRow _ _ _ _ _ _ _
    rw [hlen]
    have h6 : World.ownsRow _ _ _ _ _ _ _ := h5
    rw [hlen] at h6
    exact h6
set_option maxHeartbeats 1000000 in
set_option maxRecDepth 100000 in
theorem sorted39_any (nm : ByteArray) (UA LA : Option Addr) (un uc ln lc k : Nat) (L : List (List ByteArray)) (A : Option Addr) (n c : Nat) (l : List Hv) (w : World) (ho : OrtR w w.heap.size k nm UA un uc LA ln lc L) (hz : SizedL L) (h : HitsR w w.heap.size A n l) (hn : n < 20) (hl : ∀ x ∈ l, HvZ x.toHt) :
    Calls Tryz.prog 29 #[.slice A n c, .func (.func 30) #[] #[.pointer (some ⟨k, 0, none⟩)]] w fun e w' => ∃ v, e = .returned v ∧ ∃ ys, OwnR encH 5 35 w' w.heap.size v ys ∧ StableOf (fun x y : Hv => cmpH L x.toHt y.toHt) l ys ∧ (∀ x ∈ ys, HvR w' w.heap.size x) ∧ Below w.heap.size w w' := by
  have HC := Lib.hid (clone_hits A n c l w h.1 (by omega))
  have HO := Lib.hid ho
  have HE := Lib.hid h.2
  have HLN := Lib.hid h.len
  have HZ := Lib.hid hl
  clear h ho hl
  go_enter Tryz.func29, Tryz.ntmps29
  go_wp2_with fail
  refine HC.out.mono ?_
  rintro e w1 ⟨v, rfl, hown, hb1⟩
  have HB1 := Lib.hid hb1
  have HS := Lib.hid (sortedH_any nm UA LA un uc ln lc k L w.heap.size w.heap.size v l w1 (HO.out.below hb1) hz hown (by rw [HLN.out]; exact hn) (Nat.le_refl _) hb1.size (fun x hx => ⟨(HE.out x hx).below hb1, HZ.out x hx⟩))
  clear hown hb1 HC HO
  go_wp2_with fail
  refine HS.out.mono ?_
  rintro e w2 ⟨ys, rfl, h2, hst, hb2⟩
  have H2 := Lib.hid h2
  have HST := Lib.hid hst
  have HB2 : Hid (Below w.heap.size w w2) := HB1.out.trans hb2
  clear h2 hst hb2 HS
  go_wp2
  go_ret
  exact ⟨_, rfl, ys, H2.out, HST.out, fun x hx => (HE.out x ((HST.out.perm).mem_iff.1 hx)).below HB2.out, HB2.out⟩
set_option maxHeartbeats 1000000 in
set_option maxRecDepth 100000 in
theorem sort39_any (nm : ByteArray) (UA LA : Option Addr) (un uc ln lc : Nat) (L : List (List ByteArray)) (A : Option Addr) (n c : Nat) (l : List Hv) (w : World) (hL : RowsR w w.heap.size LA ln L) (hz : SizedL L) (h : HitsR w w.heap.size A n l) (hn : n < 20) (hl : ∀ x ∈ l, HvZ x.toHt) :
    Calls Tryz.prog 15 #[.agg #[.string nm, .slice UA un uc, .slice LA ln lc], .slice A n c] w fun e w' => ∃ v, e = .returned v ∧ ∃ ys, OwnR encH 5 35 w' w.heap.size v ys ∧ StableOf (fun x y : Hv => cmpH L x.toHt y.toHt) l ys ∧ (∀ x ∈ ys, HvR w' w'.heap.size x) ∧ Below w.heap.size w w' := by
  have hbe : Below w.heap.size w (w.alloc (.cells #[.string nm, .slice UA un uc, .slice LA ln lc] 50)) := (Below.refl _ w).alloc (Nat.le_refl _) _
  have HO : Hid (OrtR (w.alloc (.cells #[.string nm, .slice UA un uc, .slice LA ln lc] 50)) (w.alloc (.cells #[.string nm, .slice UA un uc, .slice LA ln lc] 50)).heap.size w.heap.size nm UA un uc LA ln lc L) := ⟨⟨by simp, by rw [World.cell?_alloc_new]; rfl, by rw [World.cell?_alloc_new]; rfl, by rw [World.cell?_alloc_new]; rfl⟩, by simp, rows_more (hL.below hbe) hbe.size⟩
  have HS := Lib.hid (sorted39_any nm UA LA un uc ln lc w.heap.size L A n c l (w.alloc (.cells #[.string nm, .slice UA un uc, .slice LA ln lc] 50)) HO.out hz (h.on hbe) hn hl)
  have HBE := Lib.hid hbe
  clear hbe h hL HO
  go_enter Tryz.func15, Tryz.ntmps15
  go_wp2_with fail
  refine HS.out.mono ?_
  rintro e w1 ⟨v, rfl, ys, h1, h2, h3, hb⟩
  have H1 := Lib.hid h1
  have H2 := Lib.hid h2
  have H3 := Lib.hid h3
  have HB := Lib.hid hb
  clear h1 h2 h3 hb HS
  go_wp2
  go_ret
  exact ⟨_, rfl, ys, own_base H1.out HBE.out.size, H2.out, fun x hx => (H3.out x hx).more HB.out.size, HBE.out.trans (HB.out.mono HBE.out.size)⟩
end Go.Proofs.YtdpllfgnppeneaaGreatDoor

/-
  Lines of the program, and of the reference.
-/
namespace Go.Proofs.YtdpllfgnppeneaaGreatDoor
open Go.RowKit Ru Lay
attribute [local go_sem ↓] Go.wp_at_zero Go.wp_at_succ
set_option linter.unusedVariables false
set_option linter.unusedSimpArgs false

theorem HitsR.on_at {w : World} {n k : Nat} {A : Option Addr} {l : List Hv} (hh : HitsR w w.heap.size A n l) (hk : k < n) :
    ∃ ad x, A = some ad ∧ l[k]? = some x ∧ HvR w w.heap.size x ∧ ∀ W, Below w.heap.size w W → W.cell? (ad.add (k * 5)) = some (.int .i64 x.rid) ∧ W.cell? ⟨(ad.add (k * 5)).block, (ad.add (k * 5)).off + 1, none⟩ = some (.int .i64 x.nid) ∧
      W.cell? ⟨(ad.add (k * 5)).block, (ad.add (k * 5)).off + 2, none⟩ = some (.slice x.la x.ln x.lc) ∧ W.cell? ⟨(ad.add (k * 5)).block, (ad.add (k * 5)).off + 3, none⟩ = some (.string x.key) ∧
      W.cell? ⟨(ad.add (k * 5)).block, (ad.add (k * 5)).off + 4, none⟩ = some (.slice x.ra x.rn x.rc) := by
  obtain ⟨ad, x, e, hb, hx, hr, _⟩ := hh.at_ hk
  refine ⟨ad, x, e, hx, hr, fun W hW => ?_⟩
  obtain ⟨ad', x', e', _, hx', _, h0, h1, h2, h3, h4⟩ := (hh.below hW).at_ hk
  rw [e] at e'
  cases e'
  rw [hx] at hx'
  cases hx'
  exact ⟨h0, h1, h2, h3, h4⟩
theorem widB_left (h : Ht) : widB (strL (joinB h.left)) = leftW h := by unfold widB leftW; rw [strL_data]
theorem szB_left {h : Ht} (hz : HvZ h) : (strL (joinB h.left)).size ≤ 1001000 := by rw [strL_size]; exact joinB_len hz.left
theorem szB_right {h : Ht} (hz : HvZ h) : (strL (joinB h.right)).size ≤ 1001000 := by rw [strL_size]; exact joinB_len hz.right
/-- The two forms of a line. -/
theorem line_short {h : Ht} {m : Nat} {p : List UInt8} (hp : p = sp (m - leftW h) ++ joinB h.left) (hr : h.right = []) : strL p ++ ⟨#[32, 91]⟩ ++ h.key ++ ⟨#[93]⟩ = strL (lineH m h) := by
  refine ba_ext ?_
  rw [app_data, app_data, app_data, strL_data, strL_data]
  unfold lineH tailL
  rw [if_pos hr, hp]
  simp
theorem line_long {h : Ht} {m : Nat} {p : List UInt8} (hp : p = sp (m - leftW h) ++ joinB h.left) (hr : ¬ h.right = []) : strL p ++ ⟨#[32, 91]⟩ ++ h.key ++ ⟨#[93]⟩ ++ (⟨#[32]⟩ ++ strL (joinB h.right)) = strL (lineH m h) := by
  refine ba_ext ?_
  rw [app_data, app_data, app_data, app_data, app_data, strL_data, strL_data, strL_data]
  unfold lineH tailL
  rw [if_neg hr, hp]
  simp
theorem line_long' {h : Ht} {m : Nat} {p : List UInt8} (hp : p = sp (m - leftW h) ++ joinB h.left) (hr : ¬ h.right = []) : strL p ++ ⟨#[32, 91]⟩ ++ h.key ++ ⟨#[93]⟩ ++ ⟨#[32]⟩ ++ strL (joinB h.right) = strL (lineH m h) := by
  rw [ByteArray.append_assoc (c := strL (joinB h.right))]
  exact line_long hp hr
theorem front_two (j : Nat) (l : List UInt8) : strL (sp j) ++ strL l = strL (sp j ++ l) := ba_ext (by rw [app_data, strL_data, strL_data, strL_data])
theorem front_one (j : Nat) (l : List UInt8) : ⟨#[32]⟩ ++ strL (sp j ++ l) = strL (sp (j + 1) ++ l) := ba_ext (by rw [app_data, strL_data, strL_data, ← sp_cons])
theorem linesL_take {l : List Ht} {i : Nat} {h : Ht} (hi : l[i]? = some h) : (linesL l).take (i + 1) = (linesL l).take i ++ [strL (lineH (mostK l l.length) h)] := take_at2 (by unfold linesL; rw [List.getElem?_map, hi]; rfl)
theorem linesL_len (l : List Ht) : (linesL l).length = l.length := by unfold linesL; simp

set_option maxHeartbeats 8000000 in
set_option maxRecDepth 100000 in
theorem lines_any (A : Option Addr) (n c : Nat) (l : List Hv) (w : World) (hl : HitsR w w.heap.size A n l) (hz : ∀ x ∈ l, HvZ x.toHt) (hn : n ≤ 1000) (hT : Tabs w) :
    Calls Tryz.prog 18 #[.slice A n c] w fun e w' => ∃ v, e = .returned v ∧ OwnS w' w.heap.size v (linesL (l.map Hv.toHt)) ∧ Below w.heap.size w w' := by
  have HL := Lib.hid hl
  have HZ := Lib.hid hz
  have HLN := Lib.hid hl.len
  have HT := Lib.hid hT
  have HM := Lib.hid fun i => mostK_sz (l := l.map Hv.toHt) (fun x hx => by obtain ⟨y, hy, rfl⟩ := List.mem_map.1 hx; exact hz y hy) i
  clear hl hz hT
  go_enter Tryz.func18, Tryz.ntmps18
  go_wp2_with fail
  go_loopw [3, 5, 13] (fun v3 v5 v13 wr => ∃ i : Nat, i ≤ n ∧ v13 = .int .i64 i ∧ v3 = .int .i64 (mostK (l.map Hv.toHt) i : Nat) ∧ Hid (Below w.heap.size w wr)) (fun _ _ v13 _ => n - (intOf v13).toNat)
  case atStart => exact ⟨0, Nat.zero_le _, rfl, rfl, Below.refl _ _⟩
  case round =>
    obtain ⟨i, hi, rfl, rfl, HB0⟩ := hrel
    by_cases hlt : i < n
    · have hiz : (i : Int) < (n : Int) := by omega
      have hiA : (0 : Int) ≤ (i : Int) := by omega
      obtain ⟨ad, x, rfl, hx, hr, hcells⟩ := HL.out.on_at hlt
      obtain ⟨q0, q1, q2, q3, q4⟩ := hcells wr HB0.out
      have HR := Lib.hid hr
      have hzx := HZ.out x (List.mem_of_getElem? hx)
      have HZX := Lib.hid hzx
      have HCE := Lib.hid hcells
      have HX := Lib.hid (hts_at hx)
      have HI := Lib.hid hlt
      have hln : x.ln ≤ 9223372036854775807 := Nat.le_trans hr.lc.1 hr.lc.2
      have hrn : x.rn ≤ 9223372036854775807 := Nat.le_trans hr.rc.1 hr.rc.2
      clear hr hx hcells
      have hmx := HM.out i
      have HMS : Hid (mostK (l.map Hv.toHt) (i + 1) = max (mostK (l.map Hv.toHt) i) (leftW x.toHt)) := mostK_succ HX.out
      have hlw := leftW_sz hzx
      have hszl := szB_left hzx
      obtain ⟨m, hm⟩ : ∃ m, mostK (l.map Hv.toHt) i = m := ⟨_, rfl⟩
      obtain ⟨LW, hLW⟩ : ∃ LW, leftW x.toHt = LW := ⟨_, rfl⟩
      have HJ := Lib.hid fun W (hW : Below w.heap.size w W) => join_any x.la x.ln x.lc x.left W (HR.out.on hW).left hzx.left HR.out.lc.1
      have HW := Lib.hid fun W (hW : Below w.heap.size w W) => width_any (strL (joinB x.left)) W (by omega) (HT.out.on hW)
      rw [show widB (strL (joinB x.left)) = LW from (widB_left x.toHt).trans hLW] at HW
      rw [hm, hLW] at HMS
      rw [hm] at hmx ⊢
      rw [hLW] at hlw
      obtain ⟨s, hs⟩ : ∃ s, strL (joinB x.left) = s := ⟨_, rfl⟩
      rw [hs] at HJ HW
      clear hzx hszl hs hm hLW
      go_wp2_with fail
      have HBA : Hid (Below w.heap.size w (wr.alloc (.cells #[.int .i64 x.rid, .int .i64 x.nid, .slice x.la x.ln x.lc, .string x.key, .slice x.ra x.rn x.rc] 35))) := HB0.out.alloc HB0.out.size _
      refine (HJ.out _ HBA.out).mono ?_
      rintro e w1 ⟨rfl, hb⟩
      have HB1 : Hid (Below w.heap.size w w1) := HBA.out.trans (hb.mono HBA.out.size)
      clear hb HBA
      go_wp2_with fail
      refine (HW.out _ HB1.out).mono ?_
      rintro e w2 ⟨rfl, hb⟩
      have HB2 : Hid (Below w.heap.size w w2) := HB1.out.trans (hb.mono HB1.out.size)
      clear hb q0 q1 q2 q3 q4
      by_cases hml : m ≤ LW
      · have hmli : (m : Int) ≤ (LW : Int) := by omega
        have hnx : Hid ((mostK (l.map Hv.toHt) (i + 1) : Int) = (LW : Int)) := by show _ = _; rw [HMS.out, Nat.max_eq_right hml]
        go_wp2
        go_roundw
        case rel => exact ⟨i + 1, HI.out, by go_num, by rw [hnx.out]; first | rfl | (congr 1; omega), HB2⟩
        case measure => have := HI.out; simp [intOf]; omega
      · have hmli : ¬ (m : Int) ≤ (LW : Int) := by omega
        have hmlj : (LW : Int) ≤ (m : Int) := by omega
        have hnx : Hid ((mostK (l.map Hv.toHt) (i + 1) : Int) = (m : Int)) := by show _ = _; rw [HMS.out, Nat.max_eq_left (by omega)]
        go_wp2
        go_roundw
        case rel => exact ⟨i + 1, HI.out, by go_num, by rw [hnx.out]; first | rfl | (congr 1; omega), HB2⟩
        case measure => have := HI.out; simp [intOf]; omega
    · obtain rfl : n = i := by omega
      have hiz : ¬ (n : Int) < (n : Int) := by omega
      obtain ⟨M, hM⟩ : ∃ M, mostK (l.map Hv.toHt) n = M := ⟨_, rfl⟩
      have hmx := HM.out n
      have HMM : Hid (mostK (l.map Hv.toHt) (l.map Hv.toHt).length = M) := by show _ = _; rw [List.length_map, HLN.out, hM]
      rw [hM] at hmx ⊢
      clear hM
      obtain ⟨wc, hwc⟩ : ∃ wc, wr = wc := ⟨_, rfl⟩
      rw [hwc] at HB0 ⊢
      clear hwc
      go_wp2_with fail
      go_loopw [6, 8, 9, 10, 26] (fun v6 v8 v9 v10 v26 wr => ∃ i : Nat, i ≤ n ∧ v26 = .int .i64 i ∧ Hid (OwnS wr w.heap.size v6 ((linesL (l.map Hv.toHt)).take i)) ∧ Hid (Below w.heap.size w wr)) (fun _ _ _ _ v26 _ => n - (intOf v26).toNat)
      case atStart => exact ⟨0, Nat.zero_le _, rfl, (by rw [List.take_zero]; exact OwnS.nil _ _), HB0⟩
      case round =>
        clear HB0
        obtain ⟨i, hi, rfl, HO, HB0⟩ := hrel
        obtain ⟨w0, hw0⟩ : ∃ w0, wr = w0 := ⟨_, rfl⟩
        rw [hw0] at HO HB0 ⊢
        clear hw0
        by_cases hlt : i < n
        · have hiz : (i : Int) < (n : Int) := by omega
          have hiA : (0 : Int) ≤ (i : Int) := by omega
          obtain ⟨ad, x, rfl, hx, hr, hcells⟩ := HL.out.on_at hlt
          obtain ⟨q0, q1, q2, q3, q4⟩ := hcells w0 HB0.out
          have HR := Lib.hid hr
          have hzx := HZ.out x (List.mem_of_getElem? hx)
          have HZX := Lib.hid hzx
          have HCE := Lib.hid hcells
          have HX := Lib.hid (hts_at hx)
          have HI := Lib.hid hlt
          have hln : x.ln ≤ 9223372036854775807 := Nat.le_trans hr.lc.1 hr.lc.2
          have hrn : x.rn ≤ 9223372036854775807 := Nat.le_trans hr.rc.1 hr.rc.2
          clear hr hx hcells
          have HNX : Hid ((linesL (l.map Hv.toHt)).take (i + 1) = (linesL (l.map Hv.toHt)).take i ++ [strL (lineH M x.toHt)]) := by
            show _ = _
            rw [linesL_take HX.out, HMM.out]
          have hll : ((linesL (l.map Hv.toHt)).take i).length ≤ i := by rw [List.length_take]; omega
          obtain ⟨ll, hlq⟩ : ∃ ll, (linesL (l.map Hv.toHt)).take i = ll := ⟨_, rfl⟩
          rw [hlq] at HO HNX hll
          clear hlq
          have hlw : leftW x.toHt ≤ M := by rw [← HMM.out]; exact leftW_le HX.out
          have hszl := szB_left hzx
          have hszr := szB_right hzx
          have hkey := hzx.key
          have HRN : Hid (x.right.length = x.rn) := HR.out.right.len
          obtain ⟨LW, hLW⟩ : ∃ LW, leftW x.toHt = LW := ⟨_, rfl⟩
          have HLW := Lib.hid hLW
          rw [hLW] at hlw
          have HJ := Lib.hid fun W (hW : Below w.heap.size w W) => join_any x.la x.ln x.lc x.left W (HR.out.on hW).left hzx.left HR.out.lc.1
          have HJR := Lib.hid fun W (hW : Below w.heap.size w W) => join_any x.ra x.rn x.rc x.right W (HR.out.on hW).right hzx.right HR.out.rc.1
          have HW := Lib.hid fun W (hW : Below w.heap.size w W) => width_any (strL (joinB x.left)) W (by omega) (HT.out.on hW)
          rw [show widB (strL (joinB x.left)) = LW from (widB_left x.toHt).trans hLW] at HW
          have HRP := Lib.hid fun W => repeat_any (M - LW) W (by omega)
          rw [show ((M - LW : Nat) : Int) = (M : Int) - (LW : Int) by omega] at HRP
          have hpp := front_two (M - LW) (joinB x.left)
          have hpsz : (strL (sp (M - LW))).size ≤ 1001000 := by rw [strL_size, sp_len]; omega
          have hP2 : sp (M - LW) ++ joinB x.left = sp (M - leftW x.toHt) ++ joinB x.left := by rw [HLW.out]
          have HS1 := Lib.hid fun hr => line_short (h := x.toHt) hP2 hr
          have HS2 := Lib.hid fun hr => line_long (h := x.toHt) hP2 hr
          rw [← hpp] at HS1 HS2
          obtain ⟨s, hs⟩ : ∃ s, strL (joinB x.left) = s := ⟨_, rfl⟩
          obtain ⟨sr, hsr⟩ : ∃ sr, strL (joinB x.right) = sr := ⟨_, rfl⟩
          obtain ⟨p, hp⟩ : ∃ p, strL (sp (M - LW)) = p := ⟨_, rfl⟩
          rw [hs] at HJ HW HS1 HS2 hszl
          rw [hsr] at HJR HS2 hszr
          rw [hp] at HRP HS1 HS2 hpsz
          clear hzx hs hsr hp hLW hpp hP2
          have hc0 : p.size + s.size ≤ 9223372036854775807 := by omega
          have hc1 : (p ++ s).size + (⟨#[32, 91]⟩ : ByteArray).size ≤ 9223372036854775807 := by
            have : (⟨#[32, 91]⟩ : ByteArray).size = 2 := rfl
            rw [ByteArray.size_append]; omega
          have hc2 : (p ++ s ++ ⟨#[32, 91]⟩).size + x.key.size ≤ 9223372036854775807 := by
            have : (⟨#[32, 91]⟩ : ByteArray).size = 2 := rfl
            rw [ByteArray.size_append, ByteArray.size_append]; omega
          have hc3 : (p ++ s ++ ⟨#[32, 91]⟩ ++ x.key).size + (⟨#[93]⟩ : ByteArray).size ≤ 9223372036854775807 := by
            have : (⟨#[32, 91]⟩ : ByteArray).size = 2 := rfl
            have : (⟨#[93]⟩ : ByteArray).size = 1 := rfl
            rw [ByteArray.size_append, ByteArray.size_append, ByteArray.size_append]; omega
          have hc4 : (⟨#[32]⟩ : ByteArray).size + sr.size ≤ 9223372036854775807 := by
            have : (⟨#[32]⟩ : ByteArray).size = 1 := rfl
            omega
          have hc5 : (p ++ s ++ ⟨#[32, 91]⟩ ++ x.key ++ ⟨#[93]⟩).size + ((⟨#[32]⟩ : ByteArray) ++ sr).size ≤ 9223372036854775807 := by
            have : (⟨#[32, 91]⟩ : ByteArray).size = 2 := rfl
            have : (⟨#[93]⟩ : ByteArray).size = 1 := rfl
            have : (⟨#[32]⟩ : ByteArray).size = 1 := rfl
            simp only [ByteArray.size_append]; omega
          go_wp2_with fail
          obtain ⟨wa, hwa⟩ : ∃ wa, w0.alloc (.cells #[.int .i64 x.rid, .int .i64 x.nid, .slice x.la x.ln x.lc, .string x.key, .slice x.ra x.rn x.rc] 35) = wa := ⟨_, rfl⟩
          have HBA : Hid (Below w0.heap.size w0 wa) := by rw [← hwa]; exact (Below.refl _ _).alloc (Nat.le_refl _) _
          have hwz : wa.heap.size = w0.heap.size + 1 := by rw [← hwa]; simp
          have k2 : wa.cell? ⟨w0.heap.size, 3, none⟩ = some (.string x.key) := by rw [← hwa, World.cell?_alloc_at _ _ _ _ rfl]; rfl
          have k3 : wa.cell? ⟨w0.heap.size, 4, none⟩ = some (.slice x.ra x.rn x.rc) := by rw [← hwa, World.cell?_alloc_at _ _ _ _ rfl]; rfl
          rw [hwa]
          clear hwa
          have HBA2 : Hid (Below w.heap.size w wa) := HB0.out.trans (HBA.out.mono HB0.out.size)
          refine (HJ.out _ HBA2.out).mono ?_
          rintro e w1 ⟨rfl, hb⟩
          have k2' : w1.cell? ⟨w0.heap.size, 3, none⟩ = some (.string x.key) := (hb.cell (p := ⟨w0.heap.size, 3, none⟩) (by show w0.heap.size < _; omega)).trans k2
          have k3' : w1.cell? ⟨w0.heap.size, 4, none⟩ = some (.slice x.ra x.rn x.rc) := (hb.cell (p := ⟨w0.heap.size, 4, none⟩) (by show w0.heap.size < _; omega)).trans k3
          have hw1z : w0.heap.size < w1.heap.size := by have := hb.size; omega
          have HB1 : Hid (Below w0.heap.size w0 w1) := HBA.out.trans (hb.mono HBA.out.size)
          have HB1' : Hid (Below w.heap.size w w1) := HB0.out.trans (HB1.out.mono HB0.out.size)
          clear hb k2 k3 HBA HBA2 hwz
          have q : ∀ r : BW w1, r.at_.cell? ⟨w0.heap.size, 3, none⟩ = some (.string x.key) := fun r => cell_bw k2' hw1z r
          have HWB := Lib.hid fun (r : BW w1) => HW.out r.at_ (HB1'.out.trans (r.bel.mono HB1'.out.size))
          clear k2'
          go_wp2_with fail
          refine wp_region_quiet_below (by kernel_rfl) (by kernel_rfl) ?_
          repeat (go_big_quiet_step ((first | (go_at_call 32; exact below_quiet (HWB.out _)) | (go_at_call 34; exact below_quiet (HRP.out _)))))
          refine wpQuiet_nil ?_
          intro w2 hw'
          have hb2 := bw_below hw'
          have k4 : w2.cell? ⟨w0.heap.size, 4, none⟩ = some (.slice x.ra x.rn x.rc) := (hb2.cell (p := ⟨w0.heap.size, 4, none⟩) hw1z).trans k3'
          have HB2 : Hid (Below w0.heap.size w0 w2) := HB1.out.trans (hb2.mono HB1.out.size)
          have HB2' : Hid (Below w.heap.size w w2) := HB0.out.trans (HB2.out.mono HB0.out.size)
          clear hw' hb2 q k3' hw1z
          by_cases h0 : 0 < x.rn
          · have h0z : (0 : Int) < (x.rn : Int) := by omega
            have HLINE := Lib.hid (HS2.out (fun e => by have := HRN.out; rw [e] at this; simp at this; omega))
            go_wp2_with fail
            refine (HJR.out _ HB2'.out).mono ?_
            rintro e wy ⟨rfl, hb⟩
            have HBY : Hid (Below w0.heap.size w0 wy) := HB2.out.trans (hb.mono HB2.out.size)
            clear hb k4
            clear q0 q1 q2 q3 q4
            have HO2 := Lib.hid (HO.out.on HBY.out)
            have hszz : w.heap.size ≤ wy.heap.size := Nat.le_trans HB0.out.size HBY.out.size
            go_wp2_with (at_builtin; refine wpList_app1 rfl (.tmp 55) (.tmp 57) 33 rfl w.heap.size 9 16 (.string .empty) info_string rfl Tryz.underlying33 rfl HO2.out rfl rfl (by omega) (by omega) hszz ?_; rintro v7 w4 hown7 hb7 hs7 hk7; clear hk7)
            have hO3 := own_s (n := 0) hown7
            rw [HLINE.out, ← HNX.out] at hO3
            have HO3 := Lib.hid hO3
            have HB3 : Hid (Below w.heap.size w w4) := (HB0.out.trans (HBY.out.mono HB0.out.size)).trans hb7
            clear hO3 hown7 hb7 hs7
            have hi1 : i + 1 ≤ n := HI.out
            go_wp2
            go_roundw
            case rel => exact ⟨i + 1, hi1, by go_num, HO3, HB3⟩
            case measure => have := HI.out; simp [intOf]; omega
          · have h0z : ¬ (0 : Int) < (x.rn : Int) := by omega
            have hd0 : decide ((0 : Int) < (x.rn : Int)) = false := decide_eq_false h0z
            have HLINE := Lib.hid (HS1.out (List.eq_nil_of_length_eq_zero (by have := HRN.out; omega)))
            have hrn0 : Hid (¬ 0 < x.rn) := h0
            clear h0
            obtain ⟨wy, hwy⟩ : ∃ wy, w2 = wy := ⟨_, rfl⟩
            rw [hwy] at k4 HB2 ⊢
            clear hwy
            have HBY := HB2
            have HO2 := Lib.hid (HO.out.on HBY.out)
            have hszz : w.heap.size ≤ wy.heap.size := Nat.le_trans HB0.out.size HBY.out.size
            go_wp2_with (at_builtin; refine wpList_app1 rfl (.tmp 55) (.tmp 57) 33 rfl w.heap.size 9 16 (.string .empty) info_string rfl Tryz.underlying33 rfl HO2.out rfl rfl (by omega) (by omega) hszz ?_; rintro v7 w4 hown7 hb7 hs7 hk7; clear hk7)
            have hO3 := own_s (n := 0) hown7
            rw [HLINE.out, ← HNX.out] at hO3
            have HO3 := Lib.hid hO3
            have HB3 : Hid (Below w.heap.size w w4) := (HB0.out.trans (HBY.out.mono HB0.out.size)).trans hb7
            clear hO3 hown7 hb7 hs7
            have hi1 : i + 1 ≤ n := HI.out
            go_wp2
            go_roundw
            case rel => exact ⟨i + 1, hi1, by go_num, HO3, HB3⟩
            case measure => have := HI.out; simp [intOf]; omega
        · obtain rfl : n = i := by omega
          have hiz : ¬ (n : Int) < (n : Int) := by omega
          have h0 := HO.out
          rw [List.take_of_length_le (by rw [linesL_len, List.length_map, HLN.out]; exact Nat.le_refl _)] at h0
          have HO5 := Lib.hid h0
          clear h0
          go_wp2
          go_ret
          exact ⟨_, rfl, HO5.out, HB0.out⟩
end Go.Proofs.YtdpllfgnppeneaaGreatDoor
