/-
  concord.Sort of at most 1000 lines.
-/
import Derived.Test.YtdpllfgnppeneaaDoorSsfH
import Derived.Test.YtdpllfgnppeneaaDoorG16
namespace Go.Proofs.YtdpllfgnppeneaaDoor
open Go.RowKit Ru Lay Srt Col
attribute [local go_sem ↓] Go.wp_at_zero Go.wp_at_succ
set_option linter.unusedVariables false
set_option linter.unusedSimpArgs false

theorem sortedHL_any (nm : ByteArray) (UA LA : Option Addr) (un uc ln lc k : Nat) (L : List (List ByteArray)) (base B : Nat) (v : Value) (l : List Hv) (w : World) (ho : OrtR w B k nm UA un uc LA ln lc L) (hz : SizedL L) (h : OwnR encH 5 33 w base v l) (hn : l.length ≤ 1000) (hB : B ≤ base) (hBw : B ≤ w.heap.size)
    (hl : ∀ x ∈ l, HvR w B x ∧ HvZ x.toHt) :
    Calls Tryd.prog 70 #[v, .func (.func 40) #[] #[.pointer (some ⟨k, 0, none⟩)]] w fun e w' => ∃ ys, e = .returned (.tuple #[]) ∧ OwnR encH 5 33 w' base v ys ∧ StableOf (fun x y : Hv => cmpH L x.toHt y.toHt) l ys ∧ Below base w w' := by
  rcases Nat.eq_zero_or_pos l.length with e0 | e0
  · have hl := List.eq_nil_of_length_eq_zero e0
    subst hl
    obtain ⟨A, c, rfl, _, _, _⟩ := h.form
    refine (ssfH_none _ A c w).mono ?_
    rintro e w' ⟨rfl, rfl⟩
    exact ⟨[], rfl, h, stable_nil, Below.refl _ _⟩
  · obtain ⟨g, cap, rfl⟩ : ∃ g cap, v = .slice (some ⟨g, 0, none⟩) l.length cap := by
      rcases h.2 with ⟨_, h2⟩ | ⟨g, cap, cur, hv, _⟩
      · omega
      · exact ⟨g, cap, hv⟩
    have hg := (h.lt g rfl).1
    have hS : SK (fun p : Tag Hv => encH p.1) 5 w g 0 l.length (tagged l) w := by
      have h2 := SK.start (enc := encH) (d := fun k => l.getD k default) encH_len (by omega) h (fun j x hx => by rw [List.getD, hx]; rfl)
      exact ⟨h2.os, h2.tape, h2.output, h2.size, h2.block, h2.lt, h2.cells, h2.there, h2.obj⟩
    have hcmp : CmpOKH 40 #[.pointer (some ⟨k, 0, none⟩)] (fun x y : Hv => cmpH L x.toHt y.toHt) (fun x => HvR w B x ∧ HvZ x.toHt) w g 0 l.length := fun W d hW x y hx hy p => by
      have hb1 : Below B w p.at_ := ((hW.belowBase hg).mono hB).trans (p.bel.mono (Nat.le_trans hBw hW.size))
      have ho2 := ho.below hb1
      have hs : B ≤ p.at_.heap.size := Nat.le_trans hBw hb1.size
      exact sort1_any nm UA LA un uc ln lc k L x y p.at_ ho2.box (rows_more ho2.rows hs) hz ((hx.1.below hb1).more hs) ((hy.1.below hb1).more hs) hx.2 hy.2
    refine (ssfH_any (fun x y : Hv => cmpH L x.toHt y.toHt) ((cmpH_is L).comap Hv.toHt) (fun x => HvR w B x ∧ HvZ x.toHt) 40 #[.pointer (some ⟨k, 0, none⟩)] g 0 cap l.length (tagged l) w (enters_of Tryd.func40 (by kernel_rfl) rfl)
      hcmp (fun j hj => by
        show HvR w B (l.getD j default) ∧ HvZ (l.getD j default).toHt
        rw [List.getD, List.getElem?_eq_getElem hj]
        exact hl _ (List.getElem_mem hj)) hS hn (fun _ => rfl)).mono ?_
    rintro e w' ⟨rfl, d', h1, h2, h3⟩
    have hst := stableOf_of (c := fun x y : Hv => cmpH L x.toHt y.toHt) (xs := l) (d := d') h2 h3
    have h4 : SK encH 5 w g 0 l.length (fun k => (d' k).1) w' := ⟨h1.os, h1.tape, h1.output, h1.size, h1.block, h1.lt, h1.cells, h1.there, h1.obj⟩
    have hlen : ((listOf d' l.length).map (·.1)).length = l.length := by simp [listOf]
    have h5 := h4.owned encH_len (by omega) h hlen (fun j hj => by simp [listOf, hj])
    refine ⟨_, rfl, ?_, hst, h1.belowBase hg⟩
    show World.ownsRow _ _ _ _ _ _ _
    rw [hlen]
    have h6 : World.ownsRow _ _ _ _ _ _ _ := h5
    rw [hlen] at h6
    exact h6
set_option maxHeartbeats 1000000 in
set_option maxRecDepth 100000 in
theorem sorted39L_any (nm : ByteArray) (UA LA : Option Addr) (un uc ln lc k : Nat) (L : List (List ByteArray)) (A : Option Addr) (n c : Nat) (l : List Hv) (w : World) (ho : OrtR w w.heap.size k nm UA un uc LA ln lc L) (hz : SizedL L) (h : HitsR w w.heap.size A n l) (hn : n ≤ 1000) (hl : ∀ x ∈ l, HvZ x.toHt) :
    Calls Tryd.prog 39 #[.slice A n c, .func (.func 40) #[] #[.pointer (some ⟨k, 0, none⟩)]] w fun e w' => ∃ v, e = .returned v ∧ ∃ ys, OwnR encH 5 33 w' w.heap.size v ys ∧ StableOf (fun x y : Hv => cmpH L x.toHt y.toHt) l ys ∧ (∀ x ∈ ys, HvR w' w.heap.size x) ∧ Below w.heap.size w w' := by
  have HC := Lib.hid (clone_hits A n c l w h.1 hn)
  have HO := Lib.hid ho
  have HE := Lib.hid h.2
  have HLN := Lib.hid h.len
  have HZ := Lib.hid hl
  clear h ho hl
  go_enter Tryd.func39, Tryd.ntmps39
  go_wp2_with fail
  refine HC.out.mono ?_
  rintro e w1 ⟨v, rfl, hown, hb1⟩
  have HB1 := Lib.hid hb1
  have HS := Lib.hid (sortedHL_any nm UA LA un uc ln lc k L w.heap.size w.heap.size v l w1 (HO.out.below hb1) hz hown (by rw [HLN.out]; exact hn) (Nat.le_refl _) hb1.size (fun x hx => ⟨(HE.out x hx).below hb1, HZ.out x hx⟩))
  clear hown hb1 HC HO
  go_wp2_with fail
  refine HS.out.mono ?_
  rintro e w2 ⟨ys, rfl, h2, hst, hb2⟩
  have H2 := Lib.hid h2
  have HST := Lib.hid hst
  have HB2 : Hid (Below w.heap.size w w2) := HB1.out.trans hb2
  clear h2 hst hb2 HS
  go_wp2
  go_ret
  exact ⟨_, rfl, ys, H2.out, HST.out, fun x hx => (HE.out x ((HST.out.perm).mem_iff.1 hx)).below HB2.out, HB2.out⟩
set_option maxHeartbeats 1000000 in
set_option maxRecDepth 100000 in
theorem sort39L_any (nm : ByteArray) (UA LA : Option Addr) (un uc ln lc : Nat) (L : List (List ByteArray)) (A : Option Addr) (n c : Nat) (l : List Hv) (w : World) (hL : RowsR w w.heap.size LA ln L) (hz : SizedL L) (h : HitsR w w.heap.size A n l) (hn : n ≤ 1000) (hl : ∀ x ∈ l, HvZ x.toHt) :
    Calls Tryd.prog 15 #[.agg #[.string nm, .slice UA un uc, .slice LA ln lc], .slice A n c] w fun e w' => ∃ v, e = .returned v ∧ ∃ ys, OwnR encH 5 33 w' w.heap.size v ys ∧ StableOf (fun x y : Hv => cmpH L x.toHt y.toHt) l ys ∧ (∀ x ∈ ys, HvR w' w'.heap.size x) ∧ Below w.heap.size w w' := by
  have hbe : Below w.heap.size w (w.alloc (.cells #[.string nm, .slice UA un uc, .slice LA ln lc] 28)) := (Below.refl _ w).alloc (Nat.le_refl _) _
  have HO : Hid (OrtR (w.alloc (.cells #[.string nm, .slice UA un uc, .slice LA ln lc] 28)) (w.alloc (.cells #[.string nm, .slice UA un uc, .slice LA ln lc] 28)).heap.size w.heap.size nm UA un uc LA ln lc L) := ⟨⟨by simp, by rw [World.cell?_alloc_new]; rfl, by rw [World.cell?_alloc_new]; rfl, by rw [World.cell?_alloc_new]; rfl⟩, by simp, rows_more (hL.below hbe) hbe.size⟩
  have HS := Lib.hid (sorted39L_any nm UA LA un uc ln lc w.heap.size L A n c l (w.alloc (.cells #[.string nm, .slice UA un uc, .slice LA ln lc] 28)) HO.out hz (h.on hbe) hn hl)
  have HBE := Lib.hid hbe
  clear hbe h hL HO
  go_enter Tryd.func15, Tryd.ntmps15
  go_wp2_with fail
  refine HS.out.mono ?_
  rintro e w1 ⟨v, rfl, ys, h1, h2, h3, hb⟩
  have H1 := Lib.hid h1
  have H2 := Lib.hid h2
  have H3 := Lib.hid h3
  have HB := Lib.hid hb
  clear h1 h2 h3 hb HS
  go_wp2
  go_ret
  exact ⟨_, rfl, ys, own_base H1.out HBE.out.size, H2.out, fun x hx => (H3.out x hx).more HB.out.size, HBE.out.trans (HB.out.mono HBE.out.size)⟩
end Go.Proofs.YtdpllfgnppeneaaDoor
