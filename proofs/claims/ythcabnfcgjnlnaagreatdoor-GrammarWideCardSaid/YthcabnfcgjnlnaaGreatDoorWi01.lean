import Derived.Test.YthcabnfcgjnlnaaGreatDoorE10
set_option linter.unusedVariables false
set_option linter.unusedSimpArgs false
namespace Go.Proofs.YthcabnfcgjnlnaaGreatDoor
open Go.RowKit Ru Lay Srt Col
theorem kidF_none {T : List Ti} {l : List Nt} (h : DocOk T l) {id : Int} (hg : getN l id = none) (tier : Int) (hk : (tierT T tier).kind ≠ 0) : kidF T l id tier = [] := by
 unfold kidF ofI
 split
 ·rfl
 ·rename_i ht
  unfold ofL
  rw [List.filter_map, List.map_eq_nil_iff, List.filter_eq_nil_iff]
  intro x hx
  obtain ⟨hm, hxt⟩ := ofK_all.1 hx
  show ¬ decide (((getN l x.nid).getD nt0).parent = id) = true
  rw [h.light.get hm]
  intro e
  have e2 : x.parent = id := of_decide_eq_true e
  rcases h.light.par x hm with ⟨k0, _⟩ | ⟨_, p, hp, _⟩
  ·rw [hxt] at k0; exact hk k0
  ·rw [e2, hg] at hp; cases hp
end Go.Proofs.YthcabnfcgjnlnaaGreatDoor
namespace Go.Proofs.YthcabnfcgjnlnaaGreatDoor.Lay
open Go.Proofs.YthcabnfcgjnlnaaGreatDoor Go.Proofs.YthcabnfcgjnlnaaGreatDoor.Ru
theorem seg_mono (c : List Int) (f : Nat) (n : Nat) : 0 ≤ seg c f n ∧ seg c f n + 1 ≤ seg c f (n + 1) := by
 have h : 0 ≤ seg c f n := by
  induction n with
  | zero => exact Int.le_max_right _ _
  | succ n ih =>
   have : 0 ≤ max (c.getD (f + n + 1) 0) 0 := Int.le_max_right _ _
   show 0 ≤ seg c f n + 1 + _
   omega
 refine ⟨h, ?_⟩
 have : 0 ≤ max (c.getD (f + n + 1) 0) 0 := Int.le_max_right _ _
 show _ ≤ seg c f n + 1 + _
 omega
theorem seg_le (c : List Int) (f : Nat) {n m : Nat} (h : n ≤ m) : seg c f n ≤ seg c f m := by
  induction m with
  | zero => obtain rfl : n = 0 := by omega
            exact Int.le_refl _
  | succ m ih =>
    by_cases e : n = m + 1
    · subst e; exact Int.le_refl _
    · have := ih (by omega)
      have := (seg_mono c f m).2
      omega
theorem gst_all {c : List Int} {W : Int} {m : Nat} (h : seg c 0 m ≤ W) : ∀ i, i ≤ m → gst c W (i + 1) = ([(0, i + 1)], seg c 0 i)
 | 0, _ => by
  rw [gst_no (fun hf => by have := hf.1; omega)]
  rfl
 | i + 1, hi => by
  have ih := gst_all h i (by omega)
  have hm := seg_mono c 0 i
  have hs : seg c 0 (i + 1) ≤ W := Int.le_trans (seg_le c 0 hi) h
  have e : seg c 0 (i + 1) = seg c 0 i + 1 + max (c.getD (i + 1) 0) 0 := by
   show seg c 0 i + 1 + max (c.getD (0 + i + 1) 0) 0 = _
   rw [Nat.zero_add]
  have hf : Fit c W (i + 1) := ⟨by omega, by rw [ih]; show seg c 0 i ≤ W; omega, by rw [ih]; show _ ≤ W - seg c 0 i - 1; omega⟩
  rw [gst_yes (done := []) (f := 0) (e := i + 1) hf (by rw [ih]; rfl), ih, e]
  rfl
theorem groups_all {c : List Int} {W : Int} (hc : 0 < c.length) (h : seg c 0 (c.length - 1) ≤ W) : groups c W = [(0, c.length)] := by
 unfold groups
 obtain ⟨m, hm⟩ : ∃ m, c.length = m + 1 := ⟨c.length - 1, by omega⟩
 rw [hm] at h ⊢
 rw [gst_all h m (Nat.le_refl _)]
theorem partP_all {L : List (List ByteArray)} {n : Nat} (h : nmax L ≤ n) : partP L (0, n) = L := by
 unfold partP
 conv => rhs; rw [← List.map_id L]
 refine List.map_congr_left fun r hr => ?_
 have := le_nmax hr
 show (r.take (min n r.length)).drop (min 0 r.length) = r
 rw [Nat.min_eq_right (show r.length ≤ n by omega), Nat.zero_min, List.drop_zero, List.take_length]
theorem wrapL_all {L : List (List ByteArray)} {W : Int} (h : 0 < nmax L) (hs : seg (cols L) 0 (nmax L - 1) ≤ W) : wrapL L W = alignL L := by
 have hg := groups_all (c := cols L) (W := W) (by rw [cols_len]; exact h) (by rw [cols_len]; exact hs)
 unfold wrapL
 rw [hg, cols_len]
 show [] ++ (if 0 < 0 then _ else []) ++ alignL (partP L ([(0, nmax L)].getD 0 (0, 0))) = _
 rw [List.getD_cons_zero, partP_all (Nat.le_refl _)]
 simp
end Go.Proofs.YthcabnfcgjnlnaaGreatDoor.Lay
namespace Go.Proofs.YthcabnfcgjnlnaaGreatDoor
open Go.RowKit Ru Lay
attribute [local go_sem ↓] Go.wp_at_zero Go.wp_at_succ
def PartI (W : World) (base : Nat) (v : Value) (P : List (List ByteArray)) : Prop :=
 ∃ us : List Value, W.ownsRow base 45 1 v P.length us ∧ us.length = P.length ∧ ∀ (j : Nat) (u : Value) (r : List ByteArray), us[j]? = some u → P[j]? = some r → OwnS W base u r ∧ Apart u v
theorem PartI.nil (W : World) (base : Nat) : PartI W base (.slice none 0 0) [] := ⟨[], World.ownsRow_nil _ _ _ _, rfl, fun j u r h => by simp at h⟩
theorem PartI.on {W W' : World} {base : Nat} {v : Value} {P : List (List ByteArray)} (h : PartI W base v P) (hb : Below W.heap.size W W') : PartI W' base v P := by
 obtain ⟨us, h1, h2, h3⟩ := h
 exact ⟨us, own_below h1 hb, h2, fun j u r hu hr => ⟨(h3 j u r hu hr).1.on hb, (h3 j u r hu hr).2⟩⟩
theorem PartI.rows {W : World} {base : Nat} {v : Value} {P : List (List ByteArray)} (h : PartI W base v P) : ∃ A c, v = .slice A P.length c ∧ RowsC W W.heap.size A P.length P := by
 obtain ⟨us, h1, h2, h3⟩ := h
 obtain ⟨A, c, rfl, _, _, hr⟩ := own_form h1
 refine ⟨A, c, rfl, us, hr, rfl, fun i l hl => ?_⟩
 have hlt := (List.getElem?_eq_some_iff.1 hl).1
 have hu : us[i]? = some (us[i]'(by omega)) := List.getElem?_eq_getElem (by omega)
 obtain ⟨A', c', e, h4, h5, hs⟩ := (h3 i _ l hu hl).1.form
 exact ⟨A', l.length, c', by rw [hu, e], hs, h4, h5⟩
theorem PartI.add {W W' : World} {base b2 : Nat} {v v' u : Value} {P : List (List ByteArray)} {us : List Value} {r : List ByteArray}
  (h1 : W'.ownsRow base 45 1 v' (P.length + 1) (us ++ [u])) (h2 : us.length = P.length) (h3 : ∀ (j : Nat) (u : Value) (r : List ByteArray), us[j]? = some u → P[j]? = some r → OwnS W base u r ∧ Apart u v)
  (hu : OwnS W b2 u r) (hb : base ≤ b2) (hv : ∀ b, v.ownBlock = some b → b < b2)
  (hk : ∀ (base2 e2 size2 : Nat) (u : Value) (m : Nat) (ys : List Value), W.ownsRow base2 e2 size2 u m ys → Apart u v → W'.ownsRow base2 e2 size2 u m ys ∧ Apart u v') : PartI W' base v' (P ++ [r]) := by
 refine ⟨us ++ [u], by rw [List.length_append]; exact h1, by rw [List.length_append, List.length_append, h2]; rfl, fun j t q ht hq => ?_⟩
 by_cases hlt : j < P.length
 ·rw [List.getElem?_append_left (by omega)] at ht
  rw [List.getElem?_append_left hlt] at hq
  obtain ⟨h4, h5⟩ := h3 j t q ht hq
  exact hk _ _ _ _ _ _ h4 h5
 ·rw [List.getElem?_append_right (by omega), h2] at ht
  rw [List.getElem?_append_right (by omega)] at hq
  have hj : j - P.length = 0 := by
   have := (List.getElem?_eq_some_iff.1 hq).1
   simp at this
   omega
  rw [hj] at ht hq
  simp at ht hq
  subst ht hq
  obtain ⟨h4, h5⟩ := hk _ _ _ _ _ _ (own_base hu hb) (fun b hb1 hb2 => by
   have := (World.ownsRow.lt hu b hb1).1
   have := hv b hb2
   omega)
  exact ⟨h4, h5⟩
theorem PartI.lt {W : World} {base : Nat} {v : Value} {P : List (List ByteArray)} (h : PartI W base v P) : ∀ b, v.ownBlock = some b → b < W.heap.size := by
 obtain ⟨us, h1, _⟩ := h
 exact fun b hb => (h1.lt b hb).2
theorem exL_ref {T : List Ti} {l : List Nt} (h : DocOk T l) (id : Int) (K : Nat) (WD : Int) :
  exL T l id K WD = wrapL (rowsL T l id K) WD ++ (kidF T l id (roleT T 5)).map (fun x => quoB (textN l x)) := by
 unfold exL
 cases hb : (getN l id).isSome with
 | true => rfl
 | false =>
  have h0 : rowsL T l id K = [] := by unfold rowsL; rw [hb]; rfl
  have h1 : wrapL ([] : List (List ByteArray)) WD = [] := wrapL_none rfl
  have hn : getN l id = none := by
   cases e : getN l id with
   | none => rfl
   | some x => rw [e] at hb; cases hb
  have h2 : kidF T l id (roleT T 5) = [] := by
   rcases roleT_some T 5 with e | ⟨h0, h1, h2, _⟩
   ·unfold kidF ofI
    rw [e, if_pos (by omega)]
    rfl
   ·refine kidF_none h hn _ ?_
    have h3 := (h.at_ h0 h1).2
    rw [h2] at h3
    have h4 : kind11 5 ≠ 0 ∧ 0 ≤ kind11 5 := by decide
    rw [h3 h4.2]
    exact h4.1
  rw [h0, h1, h2]
  rfl
theorem kidF_neg {T : List Ti} {l : List Nt} {id t : Int} (h : t < 0) : kidF T l id t = [] := by
 unfold kidF ofI
 rw [if_pos (Or.inl h)]
 rfl
end Go.Proofs.YthcabnfcgjnlnaaGreatDoor
namespace Go.Proofs.YthcabnfcgjnlnaaGreatDoor
open Go.RowKit Ru Lay
theorem seg_bd {L : List (List ByteArray)} {M : Nat} (h : ∀ k, colAt L k ≤ M) : ∀ n, seg (cols L) 0 n ≤ (((n + 1) * (M + 1) : Nat) : Int)
 | 0 => by
  show max ((cols L).getD 0 0) 0 ≤ _
  rw [cols_getD]
  have := h 0
  omega
 | n + 1 => by
  show seg (cols L) 0 n + 1 + max ((cols L).getD (0 + n + 1) 0) 0 ≤ _
  have h1 := seg_bd h n
  have h2 := h (0 + n + 1)
  rw [cols_getD]
  have h3 : (n + 1 + 1) * (M + 1) = (n + 1) * (M + 1) + (M + 1) := Nat.succ_mul _ _
  rw [h3]
  omega
theorem rowsL_cell {T : List Ti} {l : List Nt} {id : Int} {K : Nat} (h : TxtZ l) (hn : l.length ≤ 14) : ∀ r ∈ rowsL T l id K, r.length ≤ 14 ∧ ∀ s ∈ r, s.size ≤ 3000 := by
 have h1 := fun x => textN_sz h x
 have h2 : ∀ x, (joinD (formsL T l x)).size ≤ 3000 := fun x => by
  have g1 := joinD_sz (forms_sz (T := T) h (id := x))
  have g2 := forms_len (T := T) (l := l) (id := x)
  have : (formsL T l x).length * (200 + 1) ≤ 14 * 201 := Nat.mul_le_mul_right 201 (by omega)
  omega
 have h3 : ∀ x, (joinD (glossesL T l x)).size ≤ 3000 := fun x => by
  have g1 := joinD_sz (glosses_sz (T := T) h (id := x))
  have g2 := forms_len (T := T) (l := l) (id := x)
  rw [glosses_len] at g1
  have : (formsL T l x).length * (200 + 1) ≤ 14 * 201 := Nat.mul_le_mul_right 201 (by omega)
  omega
 have hw := wordsL_len (T := T) (l := l) (id := id) (K := K)
 have r1 : (row1 T l (wordsL T l id K)).length ≤ 14 ∧ ∀ s ∈ row1 T l (wordsL T l id K), s.size ≤ 3000 := ⟨by unfold row1; rw [List.length_map]; omega, fun s hs => by
  obtain ⟨x, _, rfl⟩ := List.mem_map.1 hs
  have := h1 x
  omega⟩
 have r2 : (row2 T l (wordsL T l id K)).length ≤ 14 ∧ ∀ s ∈ row2 T l (wordsL T l id K), s.size ≤ 3000 := ⟨by unfold row2; rw [List.length_map]; omega, fun s hs => by
  obtain ⟨x, _, rfl⟩ := List.mem_map.1 hs
  exact h2 x⟩
 have r3 : (row3 T l (wordsL T l id K)).length ≤ 14 ∧ ∀ s ∈ row3 T l (wordsL T l id K), s.size ≤ 3000 := ⟨by unfold row3; rw [List.length_map]; omega, fun s hs => by
  obtain ⟨x, _, rfl⟩ := List.mem_map.1 hs
  exact h3 x⟩
 intro r hr
 unfold rowsL rowsW at hr
 split at hr
 ·split at hr
  ·rw [List.mem_singleton] at hr
   subst hr
   exact ⟨by simp, fun s hs => by rw [List.mem_singleton] at hs; subst hs; have := h1 id; omega⟩
  ·split at hr
   ·simp only [List.mem_cons, List.not_mem_nil, or_false] at hr
    rcases hr with rfl | rfl | rfl
    ·exact r1
    ·exact r2
    ·exact r3
   ·rw [List.mem_singleton] at hr
    subst hr
    exact r1
 ·cases hr
theorem nmax_ge {L : List (List ByteArray)} {r : List ByteArray} (h : r ∈ L) : r.length ≤ nmax L := by
 induction L with
 | nil => cases h
 | cons x t ih =>
  show _ ≤ max x.length (nmax t)
  rcases List.mem_cons.1 h with rfl | h1
  ·exact Nat.le_max_left _ _
  ·exact Nat.le_trans (ih h1) (Nat.le_max_right _ _)
theorem rowsL_wide {T : List Ti} {l : List Nt} {id : Int} {K : Nat} (h : TxtZ l) (hn : l.length ≤ 14) : wrapL (rowsL T l id K) 100000 = alignL (rowsL T l id K) := by
  have hc := rowsL_cell (T := T) (id := id) (K := K) h hn
  have hm : nmax (rowsL T l id K) ≤ 14 := nmax_le fun r hr => (hc r hr).1
  by_cases h0 : 0 < nmax (rowsL T l id K)
  · refine wrapL_all h0 (Int.le_trans (seg_bd (M := 3000) (fun k => colAt_le fun r hr => (hc r hr).2) _) ?_)
    have : (nmax (rowsL T l id K) - 1 + 1) * (3000 + 1) ≤ 14 * 3001 := Nat.mul_le_mul_right 3001 (by omega)
    omega
  · have hr : rowsL T l id K = [] := by
      cases hb : (getN l id).isSome with
      | false => unfold rowsL; rw [hb]; rfl
      | true =>
        exfalso
        apply h0
        by_cases hw : wordsL T l id K = []
        · have : [textN l id] ∈ rowsL T l id K := by unfold rowsL; rw [hb, if_pos rfl, if_pos hw]; exact List.mem_singleton.2 rfl
          have := nmax_ge this
          simp at this
          omega
        · have : row1 T l (wordsL T l id K) ∈ rowsL T l id K := by
            unfold rowsL rowsW
            rw [hb, if_pos rfl, if_neg hw]
            split
            · exact List.mem_cons_self
            · exact List.mem_cons_self
          have := nmax_ge this
          unfold row1 at this
          rw [List.length_map] at this
          have : 0 < (wordsL T l id K).length := List.length_pos_iff.2 hw
          omega
    rw [hr, wrapL_none rfl]
    rfl
theorem sort_one {l : List Nt} (h : l.length ≤ 1) : sortN l = l := by
 match l, h with
 | [], _ => rfl
 | [x], _ => rfl
theorem kids_wide {T : List Ti} {l : List Nt} (h : DocOk T l) (id : Int) : (sibs T.length l id (roleT T 5)).length ≤ 1 ∧
    (kidF T l id (roleT T 5)).map (fun x => quoB (textN l x)) = (sibs T.length l id (roleT T 5)).map fun y => quoB y.text := by
  rcases roleT_some T 5 with e | ⟨h0, h1, h2, _⟩
  · have e1 : sibs T.length l id (roleT T 5) = [] := by
      unfold sibs
      rw [List.filter_eq_nil_iff]
      intro a _
      rw [e]
      simp
    rw [e1, kidF_neg (by omega)]
    exact ⟨by simp, rfl⟩
  · have h3 := (h.at_ h0 h1).2
    rw [h2] at h3
    have hk : (tierT T (roleT T 5)).kind = 4 := by rw [h3 (by decide)]; decide
    have h4 := docOk_label h h0 h1 hk id
    refine ⟨h4, ?_⟩
    rw [kidF_kids h.light id (roleT T 5) ⟨h0, h1⟩]
    unfold kidsL
    rw [sort_one h4, List.map_map]
    refine List.map_congr_left fun x hx => ?_
    have hm := (List.mem_filter.1 hx).1
    show quoB (textN l x.nid) = quoB x.text
    unfold textN
    rw [h.light.get hm]
    rfl
theorem exL_wide {T : List Ti} {l : List Nt} (h : DocOk T l) (hn : l.length ≤ 14) (id : Int) (K : Nat) :
  exL T l id K 100000 = alignL (rowsL T l id K) ++ (sibs T.length l id (roleT T 5)).map fun y => quoB y.text := by
 rw [exL_ref h, rowsL_wide (fun y hy => h.text hy) hn, (kids_wide h id).2]
end Go.Proofs.YthcabnfcgjnlnaaGreatDoor
namespace Go.Proofs.YthcabnfcgjnlnaaGreatDoor
open Go.RowKit Ru Lay
attribute [local go_sem ↓] Go.wp_at_zero Go.wp_at_succ
theorem cells7v {w : World} {b : Nat} {a0 a1 a2 a3 a4 a5 a6 : Value} (h : w.rangeAt b 0 [a0, a1, a2, a3, a4, a5, a6]) : w.cell? ⟨b, 0, none⟩ = some a0 ∧ w.cell? ⟨b, 1, none⟩ = some a1 ∧ w.cell? ⟨b, 2, none⟩ = some a2 ∧ w.cell? ⟨b, 3, none⟩ = some a3 ∧ w.cell? ⟨b, 4, none⟩ = some a4 ∧ w.cell? ⟨b, 5, none⟩ = some a5 ∧ w.cell? ⟨b, 6, none⟩ = some a6 :=
 ⟨h 0 _ rfl, h 1 _ rfl, h 2 _ rfl, h 3 _ rfl, h 4 _ rfl, h 5 _ rfl, h 6 _ rfl⟩
theorem sibs_in {tn : Nat} {l : List Nt} {id t : Int} {i : Nat} {y : Nt} (hi : l[i]? = some y) (h : y.tier = t ∧ y.parent = id ∧ 0 ≤ t ∧ t < (tn : Int)) :
  (sibs tn l id t)[(sibs tn (l.take i) id t).length]? = some y := by
 have h1 : l = l.take i ++ y :: l.drop (i + 1) := by
  have h2 := (List.getElem?_eq_some_iff.1 hi)
  obtain ⟨hlt, he⟩ := h2
  rw [← he, List.getElem_cons_drop hlt, List.take_append_drop]
 have h3 : sibs tn l id t = sibs tn (l.take i) id t ++ (y :: sibs tn (l.drop (i + 1)) id t) := by
  have h4 : sibs tn l id t = sibs tn (l.take i ++ y :: l.drop (i + 1)) id t := congrArg (fun z => sibs tn z id t) h1
  rw [h4]
  unfold sibs
  rw [List.filter_append, List.filter_cons, if_pos (decide_eq_true h)]
 rw [h3, List.getElem?_append_right (Nat.le_refl _), Nat.sub_self]
 rfl
set_option maxHeartbeats 8000000 in
set_option maxRecDepth 100000 in
theorem grammarWide_any (d : Dv) (T : List Ti) (l : List Nt) (id : Int) (w : World) (hT : TiersR w w.heap.size d.ta d.tn T) (hl : NotesR w w.heap.size d.na d.nn l) (hnn : d.nn ≤ 9223372036854775807) (htb : Tabs w) (hpw : Pow w) :
  Calls Tryz.prog 8 #[docV d, .int .i64 id] w fun e w' => e = .returned (.bool true) ∧ Below w.heap.size w w' := by
 have HAW := Lib.hid fun (W : World) (hW : Below w.heap.size w W) => awake55_any W (htb.on hW) (hpw.on hW)
 have HLT := Lib.hid fun (W : World) (hW : Below w.heap.size w W) => lightD_any d T l W (hT.on hW) (hl.on hW)
 have H1 := Lib.hid fun (hL : DocOk T l) (h14 : d.nn ≤ 14) (h6 : d.tn ≤ 6) (W : World) (hW : Below w.heap.size w W) => (show Calls Tryz.prog 19 #[docV d, .int .i64 id] W (fun e w' => (∃ v, e = .returned v ∧ RwO (rowsL T l id T.length) v w') ∧ Below W.heap.size W w') from (rowsP_any d T l id T.length W (hT.on hW) (hl.on hW) hL.light hL.up (by omega) (by omega) hL.stop (by have := hT.len; omega) (fun y hy => hL.text hy)).mono fun e w' ⟨h1, h2⟩ => ⟨RwO.of h1, h2⟩)
 have H2 := Lib.hid fun (hL : DocOk T l) (h14 : d.nn ≤ 14) (h6 : d.tn ≤ 6) (W : World) (hW : Below w.heap.size w W) => example_any d T l id T.length 100000 W (hT.on hW) (hl.on hW) hL.light hL.up (by omega) (by omega) hL.stop (by have := hT.len; omega) (fun y hy => hL.text hy) (by omega) (htb.on hW)
 have H3 := Lib.hid fun (h6 : d.tn ≤ 6) (W : World) (hW : Below w.heap.size w W) => refRole_any d.ta d.tn d.tc T 5 W (hT.on hW) (by omega)
 have HNT := Lib.hid hl
 have HLN := Lib.hid hl.len
 have HRT := Lib.hid (roleT_some T 5)
 clear hT hl htb hpw
 unfold docV at HLT H1 H2
 unfold docV
 obtain ⟨rid, name, len, day, sa, sn, sc, ta, tn, tc, na, nn, nc⟩ := d
 simp only at *
 obtain ⟨W0, hW0, hz0, hB0, hK0⟩ := doc_cells w rid name len day sa ta na sn sc tn tc nn nc
 have HB := Lib.hid hB0
 have HK0 := Lib.hid hK0
 clear hB0 hK0
 go_enter Tryz.func8, Tryz.ntmps8
 go_upto_region 1 with fail
 (try rw [hW0])
 clear hW0
 obtain ⟨k0, k1, k2, k3, k4, k5, k6⟩ := cells7v (HK0.out W0 (Below.refl _ _))
 go_wp2_with fail
 refine (HLT.out W0 HB.out).mono ?_
 rintro e w3 ⟨b, rfl, hlf, hb3⟩
 have HLF := Lib.hid hlf
 have HB3 : Hid (Below W0.heap.size W0 w3) := hb3
 clear hb3 hlf k0 k1 k2 k3 k4 k5 k6 HLT
 cases b with
 | false =>
  go_wp2_with fail
  refine (HAW.out w3 (HB.out.trans (HB3.out.mono HB.out.size))).mono ?_
  rintro e w5 ⟨rfl, hb5⟩
  have HB5 : Hid (Below w.heap.size w w5) := (HB.out.trans (HB3.out.mono HB.out.size)).trans (hb5.mono (Nat.le_trans HB.out.size HB3.out.size))
  clear hb5
  go_wp2
  go_ret
  exact ⟨rfl, HB5.out⟩
 | true =>
  obtain ⟨⟨h14, h6⟩, hok⟩ := HLF.out rfl
  have HBW : Hid (∀ W, Below w3.heap.size w3 W → Below w.heap.size w W) := fun W hW => (HB.out.trans (HB3.out.mono HB.out.size)).trans (hW.mono (Nat.le_trans HB.out.size HB3.out.size))
  have HP := Lib.hid fun (W : World) (hW : Below w3.heap.size w3 W) => H1.out hok h14 h6 W (HBW.out W hW)
  have HE := Lib.hid (H2.out hok h14 h6 w3 (HBW.out w3 (Below.refl _ _)))
  rw [exL_wide hok (by rw [HLN.out]; exact h14)] at HE
  have HRO := Lib.hid fun (W : World) (hW : Below w3.heap.size w3 W) => H3.out h6 W (HBW.out W hW)
  have HA := Lib.hid fun (W : World) (hW : Below w3.heap.size w3 W) => HAW.out W (HBW.out W hW)
  have HK : Hid (∀ W, Below w3.heap.size w3 W → W.rangeAt w.heap.size 0 [.int .i64 rid, .string name, .int .i64 len, .int .i64 day, .slice sa sn sc, .slice ta tn tc, .slice na nn nc]) := fun W hW => HK0.out W (HB3.out.trans (hW.mono HB3.out.size))
  have HTX : Hid (∀ y ∈ l, y.text.size ≤ 200) := fun y hy => hok.text hy
  have HTI : Hid (∀ y ∈ l, 0 ≤ y.tier ∧ y.tier < (T.length : Int)) := fun y hy => hok.light.tier y hy
  have hw1 : w.heap.size < w3.heap.size := by have := HB3.out.size; omega
  have hsl := (kids_wide hok id).1
  have hrl : (rowsL T l id T.length).length ≤ 3 := (rowsL_few T l id T.length (by rw [HLN.out]; omega)).1
  clear hok HLF H1 H2 H3 HAW HK0
  obtain ⟨rt, hrt⟩ : ∃ x, roleT T 5 = x := ⟨_, rfl⟩
  rw [hrt] at HRO HE hsl HRT
  obtain ⟨TL, hTL⟩ : ∃ x, T.length = x := ⟨_, rfl⟩
  rw [hTL] at HE HP HTI hsl hrl
  obtain ⟨RL, hRL⟩ : ∃ x, rowsL T l id TL = x := ⟨_, rfl⟩
  rw [hRL] at HE HP hrl
  obtain ⟨F, hF⟩ : ∃ x, sibs TL l id rt = x := ⟨_, rfl⟩
  rw [hF] at HE hsl
  have HF := Lib.hid hF
  obtain ⟨EL, hEL⟩ : ∃ z, (alignL RL ++ F.map fun y => quoB y.text) = z := ⟨_, rfl⟩
  have hel : EL.length = RL.length + F.length := by rw [← hEL, List.length_append, alignL_len, List.length_map]
  rw [hEL] at HE
  have HEE := Lib.hid hEL
  clear hrt hTL hRL hF HRT hEL
  have HEL := Lib.hid hel
  clear hel
  obtain ⟨k0, k1, k2, k3, k4, k5, k6⟩ := cells7v (HK.out w3 (Below.refl _ _))
  go_wp2_with fail
  refine HE.out.mono ?_
  rintro e w4 ⟨v5, rfl, hO5, hb4⟩
  obtain ⟨A5, c5, hv5, h5a, h5b, h5r⟩ := OwnS.form hO5
  subst hv5
  have HS5 := Lib.hid h5r
  have HB4 : Hid (Below w3.heap.size w3 w4) := hb4
  clear hO5 hb4 h5r k0 k1 k2 k3 k4 k5 k6 HE
  have HPP := Lib.hid (HP.out w4 HB4.out)
  obtain ⟨k0, k1, k2, k3, k4, k5, k6⟩ := cells7v (HK.out w4 HB4.out)
  go_wp2_with fail
  refine HPP.out.mono ?_
  rintro e w5 ⟨hv0, hb5⟩
  obtain ⟨v6, rfl, A6, n6, c6, rfl, hR6, hn6⟩ := hv0
  have hln : n6 = RL.length := hR6.len.symm
  subst hln
  have HB5 := Lib.hid (HB4.out.trans (hb5.mono HB4.out.size))
  have HB45 := Lib.hid hb5
  clear hb5 hR6 hn6 k0 k1 k2 k3 k4 k5 k6 HPP HP
  go_upto_region 5 with fail
  have k5 : w5.cell? ⟨w.heap.size, 5, none⟩ = some (.slice ta tn tc) := (cells7v (HK.out w5 HB5.out)).2.2.2.2.2.1
  have HRR := Lib.hid (HRO.out w5 HB5.out)
  go_wp2_with fail
  refine HRR.out.mono ?_
  rintro e w6 ⟨rfl, hb6⟩
  have HB6 := Lib.hid (HB5.out.trans (hb6.mono HB5.out.size))
  have HB46 := Lib.hid (HB45.out.trans (hb6.mono HB45.out.size))
  have HS6 := Lib.hid (HS5.out.on HB46.out)
  clear hb6 k5 HRR HRO HS5
  have k6 : w6.cell? ⟨w.heap.size, 6, none⟩ = some (.slice na nn nc) := (cells7v (HK.out w6 HB6.out)).2.2.2.2.2.2
  go_wp2_with fail
  clear k6
  go_loopw [6, 8, 26] (fun v6 v8 v26 wr => ∃ i m : Nat, i ≤ nn ∧ v26 = .int .i64 i ∧ v6 = .int .i64 m ∧ Hid (m = RL.length + (sibs TL (l.take i) id rt).length) ∧ Hid (Below w6.heap.size w6 wr)) (fun _ _ v26 _ => nn - (intOf v26).toNat)
  case atStart => exact ⟨0, RL.length, Nat.zero_le _, rfl, rfl, rfl, Below.refl _ _⟩
  case round =>
   obtain ⟨i, m, hi, rfl, rfl, HM, HB67⟩ := hrel
   obtain ⟨w7, hw7⟩ : ∃ w7, wr = w7 := ⟨_, rfl⟩
   rw [hw7] at HB67 ⊢
   clear hw7
   have HB7 : Hid (Below w3.heap.size w3 w7) := HB6.out.trans (HB67.out.mono HB6.out.size)
   have hz67 := HB67.out.size
   by_cases hlt : i < nn
   ·have hiz : (i : Int) < (nn : Int) := by omega
    have hiA : (0 : Int) ≤ (i : Int) := by omega
    obtain ⟨ad, y, hA, hbb, hidx, hcs⟩ := HNT.out.at_ hlt
    subst hA
    have HLT2 := Lib.hid hlt
    have hym : y ∈ l := List.mem_of_getElem? hidx
    have HYT := Lib.hid (HTX.out y hym)
    have HYR := Lib.hid (HTI.out y hym)
    have HNX := Lib.hid (sibs_next (tn := TL) (id := id) (tier := rt) hidx)
    have HIN := Lib.hid fun h => sibs_in (tn := TL) (id := id) (t := rt) hidx h
    have hql : (sibs TL (l.take i) id rt).length ≤ 14 := by
     have := sibs_len (tn := TL) (l := l.take i) (id := id) (tier := rt)
     rw [List.length_take] at this
     omega
    obtain ⟨q, hq⟩ : ∃ q, (sibs TL (l.take i) id rt).length = q := ⟨_, rfl⟩
    have HNXL : Hid ((sibs TL (l.take (i + 1)) id rt).length = q + if y.tier = rt ∧ y.parent = id ∧ 0 ≤ rt ∧ rt < (TL : Int) then 1 else 0) := by
     show _ = _
     rw [HNX.out, List.length_append, hq]
     split <;> rfl
    rw [hq] at HIN hql HM
    have hm := HM.out
    clear HM
    have HCS := Lib.hid hcs
    clear hcs hidx hym hq hbb
    obtain ⟨q0, q1, q2, q3, q4, q5, q6⟩ := HCS.out w7 (HBW.out w7 HB7.out)
    have k6 : w7.cell? ⟨w.heap.size, 6, none⟩ = some (.slice (some ad) nn nc) := (cells7v (HK.out w7 HB7.out)).2.2.2.2.2.2
    by_cases ht : y.tier = rt
    ·have e1 : (y.tier != rt) = false := by rw [bne_eq_false_iff_eq]; exact ht
     by_cases hp : y.parent = id
     ·have e2 : (y.parent != id) = false := by rw [bne_eq_false_iff_eq]; exact hp
      have hcnd : y.tier = rt ∧ y.parent = id ∧ 0 ≤ rt ∧ rt < (TL : Int) := ⟨ht, hp, by rw [← ht]; exact HYR.out.1, by rw [← ht]; exact HYR.out.2⟩
      have hin := HIN.out hcnd
      have HQX : Hid ((sibs TL (l.take (i + 1)) id rt).length = q + 1) := by
       show _ = _
       rw [HNXL.out, if_pos hcnd]
      rw [HF.out] at hin
      have hqF : q < F.length := (List.getElem?_eq_some_iff.1 hin).1
      have hE : EL[m]? = some (quoB y.text) := by
       rw [← HEE.out, hm, List.getElem?_append_right (by rw [alignL_len]; omega), alignL_len, Nat.add_sub_cancel_left, List.getElem?_map, hin]
       rfl
      clear hin hcnd ht hp HIN HNX
      have HL1 : Hid ((m : Int) < (EL.length : Int)) := by
       show _ < _
       have := HEL.out
       omega
      have HL2 : Hid ((0 : Int) ≤ (m : Int)) := by show _ ≤ _; omega
      have HGE : Hid (decide (EL.length ≤ m) = false) := decide_eq_false (by have := HL1.out; omega)
      obtain ⟨a5, s5, ha5, hb5, hx5, hcc5⟩ := HS6.out.at_ (k := m) (by have := HL1.out; omega)
      rw [hE] at hx5
      cases hx5
      have HA5 := Lib.hid ha5
      have HC5 : Hid (∀ W, Below w7.heap.size w7 W → W.cell? (a5.add m) = some (.string (quoB y.text))) := fun W hW => ((HB67.out.trans (hW.mono hz67)).cell (by rw [block_of_add]; exact hb5)).trans hcc5
      have HK6 : Hid (∀ W, Below w7.heap.size w7 W → W.cell? ⟨w.heap.size, 6, none⟩ = some (.slice (some ad) nn nc)) := fun W hW => (cells7v (HK.out W (HB7.out.trans (hW.mono HB7.out.size)))).2.2.2.2.2.2
      have HC6 : Hid (∀ W, Below w7.heap.size w7 W → W.cell? ⟨(ad.add (i * 7)).block, (ad.add (i * 7)).off + 6, none⟩ = some (.string y.text)) := fun W hW => (HCS.out W (HBW.out W (HB7.out.trans (hW.mono HB7.out.size)))).2.2.2.2.2.2
      have hwr : IntKind.i64.wrap ((m : Int) + 1) = (m : Int) + 1 := IntWalk.i64_in _ (by omega)
      have HM2 : Hid (m + 1 = RL.length + (sibs TL (l.take (i + 1)) id rt).length) := by show _ = _; rw [HQX.out]; omega
      clear hm
      clear hE hb5 hcc5 ha5
      go_upto_region 10 with fail
      refine wp_region_told [Told.is (.int .i64 (m : Int)), Told.is (.slice A5 EL.length c5), Told.is (.int .i64 (EL.length : Int)), Told.is (.bool false), Told.is (.bool false), Told.is (.slice A5 EL.length c5), Told.is (.int .i64 (m : Int)), Told.is (.pointer (some (a5.add m))), Told.is (.string (quoB y.text)), Told.is (.pointer (some ⟨w.heap.size, 6, none⟩)), Told.is (.slice (some ad) nn nc), Told.is (.int .i64 (i : Int)), Told.is (.pointer (some (ad.add (i * 7)))), Told.is (.pointer (some ⟨(ad.add (i * 7)).block, (ad.add (i * 7)).off + 6, none⟩)), Told.is (.string y.text), Told.is (.string ((⟨#[34]⟩ : ByteArray) ++ y.text)), Told.is (.string (quoB y.text)), Told.is (.bool false), Told.is (.bool false)] (by kernel_rfl) (by kernel_rfl) ?_ ?_
      ·refine And.intro (fun w1 vals hB hd K hK => ?_) ?_
       ·clear hd
        simp only [putAll, Act.put, pS] at hK ⊢
        refine gwp_none rfl ?_
        go_simp
        exact hK _ _ rfl (Below.refl _ _)
       refine And.intro (fun w1 vals hB hd K hK => ?_) ?_
       ·clear hd
        simp only [putAll, Act.put, pS] at hK ⊢
        refine gwp_none rfl ?_
        go_simp
        exact hK _ _ rfl (Below.refl _ _)
       refine And.intro (fun w1 vals hB hd K hK => ?_) ?_
       ·have e1 : vals 1 = .slice A5 EL.length c5 := told_at (hd 1 rfl) rfl
        clear hd
        simp only [putAll, Act.put, pS] at hK ⊢
        simp only [e1] at hK ⊢
        clear e1
        refine gwp_none rfl ?_
        go_simp
        exact hK _ _ rfl (Below.refl _ _)
       refine And.intro (fun w1 vals hB hd K hK => ?_) ?_
       ·have e0 : vals 0 = .int .i64 (m : Int) := told_at (hd 0 rfl) rfl
        have e2 : vals 2 = .int .i64 (EL.length : Int) := told_at (hd 2 rfl) rfl
        clear hd
        simp only [putAll, Act.put, pS] at hK ⊢
        simp only [e0, e2] at hK ⊢
        clear e0 e2
        refine gwp_none rfl ?_
        go_simp
        (try rw [HGE.out])
        exact hK _ _ rfl (Below.refl _ _)
       refine And.intro (fun w1 vals hB hd K hK => ?_) ?_
       ·have e3 : vals 3 = .bool false := told_at (hd 3 rfl) rfl
        clear hd
        simp only [putAll, Act.put, pS] at hK ⊢
        simp only [e3] at hK ⊢
        clear e3
        refine gwp_none rfl ?_
        go_simp
        exact hK _ _ rfl (Below.refl _ _)
       refine And.intro (fun w1 vals hB hd K hK => ?_) ?_
       ·have g4 : vals 4 = .bool false := told_at (hd 4 rfl) rfl
        clear hd
        simp only [putAll, Act.put, pS] at hK ⊢
        refine gwp_some rfl g4 ?_
        clear g4
        go_simp
        exact hK _ _ rfl (Below.refl _ _)
       refine And.intro (fun w1 vals hB hd K hK => ?_) ?_
       ·have g4 : vals 4 = .bool false := told_at (hd 4 rfl) rfl
        clear hd
        simp only [putAll, Act.put, pS] at hK ⊢
        refine gwp_some rfl g4 ?_
        clear g4
        go_simp
        exact hK _ _ rfl (Below.refl _ _)
       refine And.intro (fun w1 vals hB hd K hK => ?_) ?_
       ·have e5 : vals 5 = .slice A5 EL.length c5 := told_at (hd 5 rfl) rfl
        have e6 : vals 6 = .int .i64 (m : Int) := told_at (hd 6 rfl) rfl
        have g4 : vals 4 = .bool false := told_at (hd 4 rfl) rfl
        clear hd
        simp only [putAll, Act.put, pS] at hK ⊢
        simp only [e5, e6] at hK ⊢
        clear e5 e6
        refine gwp_some rfl g4 ?_
        clear g4
        obtain rfl := HA5.out
        have h1 := HL1.out
        have h2 := HL2.out
        go_simp
        exact hK _ _ rfl (Below.refl _ _)
       refine And.intro (fun w1 vals hB hd K hK => ?_) ?_
       ·have e7 : vals 7 = .pointer (some (a5.add m)) := told_at (hd 7 rfl) rfl
        have g4 : vals 4 = .bool false := told_at (hd 4 rfl) rfl
        clear hd
        simp only [putAll, Act.put, pS] at hK ⊢
        simp only [e7] at hK ⊢
        clear e7
        refine gwp_some rfl g4 ?_
        clear g4
        have hc := HC5.out w1 hB
        go_simp
        exact hK _ _ rfl (Below.refl _ _)
       refine And.intro (fun w1 vals hB hd K hK => ?_) ?_
       ·have g4 : vals 4 = .bool false := told_at (hd 4 rfl) rfl
        clear hd
        simp only [putAll, Act.put, pS] at hK ⊢
        refine gwp_some rfl g4 ?_
        clear g4
        go_simp
        exact hK _ _ rfl (Below.refl _ _)
       refine And.intro (fun w1 vals hB hd K hK => ?_) ?_
       ·have e9 : vals 9 = .pointer (some ⟨w.heap.size, 6, none⟩) := told_at (hd 9 rfl) rfl
        have g4 : vals 4 = .bool false := told_at (hd 4 rfl) rfl
        clear hd
        simp only [putAll, Act.put, pS] at hK ⊢
        simp only [e9] at hK ⊢
        clear e9
        refine gwp_some rfl g4 ?_
        clear g4
        have hc := HK6.out w1 hB
        go_simp
        exact hK _ _ rfl (Below.refl _ _)
       refine And.intro (fun w1 vals hB hd K hK => ?_) ?_
       ·have g4 : vals 4 = .bool false := told_at (hd 4 rfl) rfl
        clear hd
        simp only [putAll, Act.put, pS] at hK ⊢
        refine gwp_some rfl g4 ?_
        clear g4
        go_simp
        exact hK _ _ rfl (Below.refl _ _)
       refine And.intro (fun w1 vals hB hd K hK => ?_) ?_
       ·have e10 : vals 10 = .slice (some ad) nn nc := told_at (hd 10 rfl) rfl
        have e11 : vals 11 = .int .i64 (i : Int) := told_at (hd 11 rfl) rfl
        have g4 : vals 4 = .bool false := told_at (hd 4 rfl) rfl
        clear hd
        simp only [putAll, Act.put, pS] at hK ⊢
        simp only [e10, e11] at hK ⊢
        clear e10 e11
        refine gwp_some rfl g4 ?_
        clear g4
        have hi1 := HLT2.out
        have hi2 : (i : Int) < (nn : Int) := by omega
        have hi3 : (0 : Int) ≤ (i : Int) := by omega
        go_simp
        exact hK _ _ rfl (Below.refl _ _)
       refine And.intro (fun w1 vals hB hd K hK => ?_) ?_
       ·have e12 : vals 12 = .pointer (some (ad.add (i * 7))) := told_at (hd 12 rfl) rfl
        have g4 : vals 4 = .bool false := told_at (hd 4 rfl) rfl
        clear hd
        simp only [putAll, Act.put, pS] at hK ⊢
        simp only [e12] at hK ⊢
        clear e12
        refine gwp_some rfl g4 ?_
        clear g4
        go_simp
        exact hK _ _ rfl (Below.refl _ _)
       refine And.intro (fun w1 vals hB hd K hK => ?_) ?_
       ·have e13 : vals 13 = .pointer (some ⟨(ad.add (i * 7)).block, (ad.add (i * 7)).off + 6, none⟩) := told_at (hd 13 rfl) rfl
        have g4 : vals 4 = .bool false := told_at (hd 4 rfl) rfl
        clear hd
        simp only [putAll, Act.put, pS] at hK ⊢
        simp only [e13] at hK ⊢
        clear e13
        refine gwp_some rfl g4 ?_
        clear g4
        have hc := HC6.out w1 hB
        go_simp
        exact hK _ _ rfl (Below.refl _ _)
       refine And.intro (fun w1 vals hB hd K hK => ?_) ?_
       ·have e14 : vals 14 = .string y.text := told_at (hd 14 rfl) rfl
        have g4 : vals 4 = .bool false := told_at (hd 4 rfl) rfl
        clear hd
        simp only [putAll, Act.put, pS] at hK ⊢
        simp only [e14] at hK ⊢
        clear e14
        refine gwp_some rfl g4 ?_
        clear g4
        have hs1 : ¬ 9223372036854775807 < 1 + y.text.size := by have := HYT.out; omega
        go_simp
        exact hK _ _ rfl (Below.refl _ _)
       refine And.intro (fun w1 vals hB hd K hK => ?_) ?_
       ·have e15 : vals 15 = .string ((⟨#[34]⟩ : ByteArray) ++ y.text) := told_at (hd 15 rfl) rfl
        have g4 : vals 4 = .bool false := told_at (hd 4 rfl) rfl
        clear hd
        simp only [putAll, Act.put, pS] at hK ⊢
        simp only [e15] at hK ⊢
        clear e15
        refine gwp_some rfl g4 ?_
        clear g4
        have hs2 : ¬ 9223372036854775807 < 1 + y.text.size + 1 := by have := HYT.out; omega
        have hs22 : ((⟨#[34]⟩ : ByteArray) ++ y.text).size = 1 + y.text.size := by rw [ByteArray.size_append]; rfl
        go_simp
        exact hK _ _ rfl (Below.refl _ _)
       refine And.intro (fun w1 vals hB hd K hK => ?_) ?_
       ·have e8 : vals 8 = .string (quoB y.text) := told_at (hd 8 rfl) rfl
        have e16 : vals 16 = .string (quoB y.text) := told_at (hd 16 rfl) rfl
        have g4 : vals 4 = .bool false := told_at (hd 4 rfl) rfl
        clear hd
        simp only [putAll, Act.put, pS] at hK ⊢
        simp only [e8, e16] at hK ⊢
        clear e8 e16
        refine gwp_some rfl g4 ?_
        clear g4
        go_simp
        exact hK _ _ rfl (Below.refl _ _)
       refine And.intro (fun w1 vals hB hd K hK => ?_) ?_
       ·have e4 : vals 4 = .bool false := told_at (hd 4 rfl) rfl
        have e17 : vals 17 = .bool false := told_at (hd 17 rfl) rfl
        clear hd
        simp only [putAll, Act.put, pS] at hK ⊢
        simp only [e4, e17] at hK ⊢
        clear e4 e17
        refine gwp_none rfl ?_
        go_simp
        exact hK _ _ rfl (Below.refl _ _)
       exact trivial
      ·intro w1 vals hB hd
       have e18 : vals 18 = .bool false := told_at (hd 18 (by decide)) rfl
       clear hd
       simp only [putAll, Act.put, pS]
       simp only [e18]
       clear e18
       have HB68 : Hid (Below w6.heap.size w6 w1) := HB67.out.trans (hB.mono hz67)
       clear hB HK6 HC6 HC5 q0 q1 q2 q3 q4 q5 q6 k6
       go_wp2
       go_roundw
       case rel =>
        first
         | exact ⟨i + 1, m + 1, HLT2.out, by go_num, by go_num, HM2, HB68⟩
         | ((repeat apply Exists.intro); refine ⟨?_, rfl⟩; exact ⟨i + 1, m + 1, HLT2.out, by go_num, by go_num, HM2, HB68⟩)
       case measure => have := HLT2.out; simp [intOf]; omega
     ·have e2 : (y.parent != id) = true := by rw [bne_iff_ne]; exact hp
      have HQX : Hid ((sibs TL (l.take (i + 1)) id rt).length = q) := by
       show _ = _
       rw [HNXL.out, if_neg (fun h => hp h.2.1)]
       rfl
      have HM2 : Hid (m = RL.length + (sibs TL (l.take (i + 1)) id rt).length) := by show _ = _; rw [HQX.out]; omega
      clear hm ht hp HIN HNX HNXL
      go_wp2
      go_roundw
      case rel => exact ⟨i + 1, m, HLT2.out, by go_num, rfl, HM2, HB67⟩
      case measure => have := HLT2.out; simp [intOf]; omega
    ·have e1 : (y.tier != rt) = true := by rw [bne_iff_ne]; exact ht
     have HQX : Hid ((sibs TL (l.take (i + 1)) id rt).length = q) := by
      show _ = _
      rw [HNXL.out, if_neg (fun h => ht h.1)]
      rfl
     have HM2 : Hid (m = RL.length + (sibs TL (l.take (i + 1)) id rt).length) := by show _ = _; rw [HQX.out]; omega
     clear hm ht HIN HNX HNXL
     go_wp2
     go_roundw
     case rel => exact ⟨i + 1, m, HLT2.out, by go_num, rfl, HM2, HB67⟩
     case measure => have := HLT2.out; simp [intOf]; omega
   ·obtain rfl : i = nn := by omega
    have hiz : ¬ (i : Int) < (i : Int) := by omega
    have hfin : m = EL.length := by
     have h1 := HM.out
     rw [← HLN.out, List.take_length, HF.out] at h1
     rw [h1, HEL.out]
    subst hfin
    have heq : ((EL.length : Int) == (EL.length : Int)) = true := beq_self_eq_true _
    go_wp2_with fail
    refine (HA.out w7 HB7.out).mono ?_
    rintro e w8 ⟨rfl, hb8⟩
    have HB8 := Lib.hid (HBW.out _ (HB7.out.trans (hb8.mono HB7.out.size)))
    clear hb8
    go_wp2
    go_ret
    exact ⟨rfl, HB8.out⟩
end Go.Proofs.YthcabnfcgjnlnaaGreatDoor
