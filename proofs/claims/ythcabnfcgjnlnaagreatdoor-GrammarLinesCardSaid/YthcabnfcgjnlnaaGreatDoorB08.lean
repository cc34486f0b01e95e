import Derived.Test.YthcabnfcgjnlnaaGreatDoorB07
set_option linter.unusedVariables false
set_option linter.unusedSimpArgs false
namespace Go.Proofs.YthcabnfcgjnlnaaGreatDoor
section
open Go.RowKit Ru Lay
attribute [local go_sem ↓] Go.wp_at_zero Go.wp_at_succ
theorem one_intI (l : List Int) : ∀ u ∈ l.map (Value.int .i64), u.oneCell' = true := fun u hu => by
 obtain ⟨x, _, rfl⟩ := List.mem_map.1 hu;rfl
theorem flatMap_next {f : Int -> List Int} {ids : List Int} {i : Nat} {x : Int} (h : ids[i]? = some x) : (ids.take (i + 1)).flatMap f = (ids.take i).flatMap f ++ f x := by
 rw [List.take_add_one, h];simp [List.flatMap_append]
theorem flatMap_part {f : Int -> List Int} {ids : List Int} (i : Nat) : ((ids.take i).flatMap f).length <= (ids.flatMap f).length := by
 conv => rhs; rw [<- List.take_append_drop i ids]
 rw [List.flatMap_append, List.length_append];omega
set_option maxHeartbeats 4000000 in
set_option maxRecDepth 100000 in
theorem of_step (d : Dv) (T : List Ti) (l : List Nt) (j : Nat) (x : Ti) (ids : List Int) (w : World) (hT : TiersR w w.heap.size d.ta d.tn T) (hl : NotesR w w.heap.size d.na d.nn l) (hnn : d.nn < 20) (htn : d.tn <= 1000000)
  (hj : j < d.tn) (hx : T[j]? = some x) (hk : x.kind ≠ 0) (hlen : ids.length <= 1000000) (hz : (ids.flatMap fun id => kidsL d.tn l id (j : Int)).length <= 1000000)
  (hih : ∀ W, Below w.heap.size w W -> Calls Tryz.prog 45 #[docV d, .int .i64 x.parent] W fun e w' => ∃ v, e = .returned v /\ OwnI w' W.heap.size v ids /\ Below W.heap.size W w') :
  Calls Tryz.prog 45 #[docV d, .int .i64 (j : Int)] w fun e w' => ∃ v, e = .returned v /\ OwnI w' w.heap.size v (ids.flatMap fun id => kidsL d.tn l id (j : Int)) /\ Below w.heap.size w w' := by
 have HIHX := hI hih;have HZ := hI hz;clear hih hz;have HC := hI fun (W : World) (hW : Below w.heap.size w W) (id t : Int) => kids_any d l id t W (hl.on hW) hnn (by omega)
 have HT := hI hT;clear hl hT;unfold docV at HC HIHX;unfold docV;obtain ⟨rid, name, len, day, sa, sn, sc, ta, tn, tc, na, nn, nc⟩ := d;simp only at HC HIHX HZ hnn htn HT hj |-;obtain ⟨W0, hW0, hz0, hB0, hK0⟩ := doc_cells w rid name len day sa ta na sn sc tn tc nn nc;have HB := hI hB0;have HK := hI hK0;clear hB0 hK0;obtain ⟨ad, x', rfl, hab, hx', _, hcells⟩ := HT.out.at_ hj;rw [hx] at hx'
 cases hx'
 have HC3 := hI fun W hW => (hcells W hW).2.2.2
 obtain ⟨q0, q1, q2, q3⟩ := hcells W0 HB.out;have b0 : (x.kind == 0) = false := beq_eq_false_iff_ne.2 hk;obtain ⟨xn, xk, xr, xp⟩ := x;simp only at b0 q0 q1 q2 q3 HC3 HIHX;have HIH := HIHX;have hjn : (j : Int) < (tn : Int) := by omega
 have hjl : ¬ (tn : Int) <= (j : Int) := by omega
 have hjA : (0 : Int) <= (j : Int) := by omega
 have hjB : ¬ (j : Int) < 0 := by omega
 obtain ⟨k0, k1, k2, k3, k4, k5, k6⟩ := range7 (HK.out W0 (Below.refl _ _));clear hcells hx hk HIHX;go_enter Tryz.func45, Tryz.ntmps45
 go_upto_region 1 with fail
 (try rw [hW0])
 clear hW0;go_upto_region 6 with fail
 clear k0 k1 k2 k3 k4 k5 k6 q0 q1 q2 q3 b0;refine wp_region_told [Told.is (.agg #[.int .i64 rid, .string name, .int .i64 len, .int .i64 day, .slice sa sn sc, .slice (some ad) tn tc, .slice na nn nc]), Told.is (.pointer (some ⟨w.heap.size, 5, none⟩)), Told.is (.slice (some ad) tn tc), Told.is (.int .i64 (j : Int)), Told.is (.pointer (some (ad.add (j * 4)))), Told.is (.pointer (some ⟨(ad.add (j * 4)).block, (ad.add (j * 4)).off + 3, none⟩)), Told.is (.int .i64 xp), Told.such (fun v W => OwnI W W0.heap.size v ids) (fun v W W' h hb => h.on hb), Told.is (.int .i64 (ids.length : Int)), Told.is (.int .i64 0)] (by kernel_rfl) (by kernel_rfl) ?_ ?_
 ·refine And.intro (fun w1 vals hB hd K hK => ?_) ?_
  ·clear hd;simp only [putAll, Act.put, pS] at hK |-;refine gwp_none rfl ?_;have hg := HK.out w1 hB;obtain ⟨k0, k1, k2, k3, k4, k5, k6⟩ := range7 hg;clear hg;go_simp;exact hK _ _ rfl bR
  refine And.intro (fun w1 vals hB hd K hK => ?_) ?_
  ·clear hd;simp only [putAll, Act.put, pS] at hK |-;refine gwp_none rfl ?_;go_simp;exact hK _ _ rfl bR
  refine And.intro (fun w1 vals hB hd K hK => ?_) ?_
  ·have e1 := tI (hd 1 rfl) rfl;clear hd;simp only [putAll, Act.put, pS] at hK |-;simp only [e1] at hK |-;clear e1;refine gwp_none rfl ?_;have k5 : w1.cell? ⟨w.heap.size, 5, none⟩ = some (.slice (some ad) tn tc) := HK.out w1 hB 5 _ rfl;go_simp;exact hK _ _ rfl bR
  refine And.intro (fun w1 vals hB hd K hK => ?_) ?_
  ·clear hd;simp only [putAll, Act.put, pS] at hK |-;refine gwp_none rfl ?_;go_simp;exact hK _ _ rfl bR
  refine And.intro (fun w1 vals hB hd K hK => ?_) ?_
  ·have e2 := tI (hd 2 rfl) rfl;have e3 := tI (hd 3 rfl) rfl;clear hd;simp only [putAll, Act.put, pS] at hK |-;simp only [e2, e3] at hK |-;clear e2 e3;refine gwp_none rfl ?_;go_simp;exact hK _ _ rfl bR
  refine And.intro (fun w1 vals hB hd K hK => ?_) ?_
  ·have e4 := tI (hd 4 rfl) rfl;clear hd;simp only [putAll, Act.put, pS] at hK |-;simp only [e4] at hK |-;clear e4;refine gwp_none rfl ?_;go_simp;exact hK _ _ rfl bR
  refine And.intro (fun w1 vals hB hd K hK => ?_) ?_
  ·have e5 := tI (hd 5 rfl) rfl;clear hd;simp only [putAll, Act.put, pS] at hK |-;simp only [e5] at hK |-;clear e5;refine gwp_none rfl ?_;have r3 := HC3.out w1 (HB.out.trans (hB.mono HB.out.size));go_simp;exact hK _ _ rfl bR
  refine And.intro (fun w1 vals hB hd K hK => ?_) ?_
  ·have e0 := tI (hd 0 rfl) rfl;have e6 := tI (hd 6 rfl) rfl;clear hd;simp only [putAll, Act.put, pS] at hK |-;simp only [e0, e6] at hK |-;clear e0 e6;refine gwp_none rfl ?_;go_simp;refine (HIH.out w1 (HB.out.trans (hB.mono HB.out.size))).mono ?_;rintro e w2 ⟨v, rfl, hO, hb⟩;exact hK _ _ (own_base hO hB.size) hb
  refine And.intro (fun w1 vals hB hd K hK => ?_) ?_
  ·have p7 := told_at (hd 7 rfl) rfl;simp only [Told.holds] at p7;clear hd;obtain ⟨x7, hx7⟩ : ∃ x, vals 7 = x := ⟨_, rfl⟩;rw [hx7] at p7;simp only [putAll, Act.put, pS] at hK |-;simp only [hx7] at hK |-;clear hx7;refine gwp_none rfl ?_;obtain ⟨A3, c3, rfl, _, _, _⟩ := OwnI.form p7;go_simp;exact hK _ _ rfl bR
  refine And.intro (fun w1 vals hB hd K hK => ?_) ?_
  ·clear hd;simp only [putAll, Act.put, pS] at hK |-;refine gwp_none rfl ?_;go_simp;exact hK _ _ rfl bR
  exact trivial
 ·intro w1 vals hB hd;have p7 := told_at (hd 7 (by decide)) rfl;simp only [Told.holds] at p7;have e8 := tI (hd 8 (by decide)) rfl;have e9 := tI (hd 9 (by decide)) rfl;obtain ⟨x7, hx7⟩ : ∃ x, vals 7 = x := ⟨_, rfl⟩;rw [hx7] at p7;clear hd;simp only [putAll, Act.put, pS];simp only [hx7, e8, e9];clear hx7 e8 e9;have HO7 := hI p7;have HB1 : Hid (Below W0.heap.size W0 w1) := hB;obtain ⟨A7, c7, hv7, h7a, h7b, h7r⟩ := OwnI.form HO7.out;subst hv7;have HIR := hI h7r;clear hB p7 h7a h7b h7r;go_wp2_with fail
  go_loopw [5, 7, 36] (fun v5 v7 v36 wr => ∃ i : Nat, i <= ids.length /\ v36 = .int .i64 i /\ Hid (OwnI wr w1.heap.size v5 ((ids.take i).flatMap fun id => kidsL tn l id (j : Int))) /\ Hid (Below w1.heap.size w1 wr)) (fun _ _ v36 _ => ids.length - (intOf v36).toNat)
  case atStart => exact ⟨0, Nat.zero_le _, rfl, OwnI.nil _ _, Below.refl _ _⟩
  case round =>
   obtain ⟨i, hi, rfl, HO, HB2⟩ := hrel;obtain ⟨w2, hw2⟩ : ∃ w2, wr = w2 := ⟨_, rfl⟩;rw [hw2] at HO HB2 |-;clear hw2;have HB12 : Hid (Below W0.heap.size W0 w2) := HB1.out.trans (HB2.out.mono HB1.out.size);by_cases hlt : i < ids.length
   ·have hiz : (i : Int) < (ids.length : Int) := by omega
    have hiA : (0 : Int) <= (i : Int) := by omega
    obtain ⟨bd, id, hA, hbb, hidx, hc⟩ := HIR.out.at_ hlt;subst hA;have hcw : w2.cell? (bd.add i) = some (.int .i64 id) := (HB2.out.cell (by rw [block_of_add]; exact hbb)).trans hc;have HLT := hI hlt;have HNX := hI (flatMap_next (f := fun id => kidsL tn l id (j : Int)) hidx)
    have HPT : Hid (((ids.take i).flatMap fun id => kidsL tn l id (j : Int)).length + (kidsL tn l id (j : Int)).length <= 1000000) := by
     have h1 := flatMap_part (f := fun id => kidsL tn l id (j : Int)) (ids := ids) (i + 1);have h2 := HZ.out;rw [HNX.out, List.length_append] at h1;show _ <= _;omega
    have HCC := hI (HC.out w2 (HB.out.trans (HB12.out.mono HB.out.size)) id (j : Int));obtain ⟨ks, hks⟩ : ∃ ks, kidsL tn l id (j : Int) = ks := ⟨_, rfl⟩;obtain ⟨ll, hll⟩ : ∃ ll, ((ids.take i).flatMap fun id => kidsL tn l id (j : Int)) = ll := ⟨_, rfl⟩;rw [hks] at HNX HPT HCC;rw [hll] at HNX HPT HO;have hpt := HPT.out;have hsz := HB2.out.size;clear hc hidx hks hll;obtain ⟨k0, k1, k2, k3, k4, k5, k6⟩ := range7 (HK.out w2 HB12.out);go_wp2_with fail
    refine HCC.out.mono ?_;rintro e w3 ⟨v, rfl, hO3, hb3⟩;obtain ⟨A3, c3, rfl, h3a, h3b, h3r⟩ := OwnI.form hO3;have HR3 := hI h3r;have HOO := hI (HO.out.on hb3);have HB3 : Hid (Below w1.heap.size w1 w3) := HB2.out.trans (hb3.mono hsz);have hs3 := HB3.out.size;clear hO3 hb3 h3a h3b h3r HO k0 k1 k2 k3 k4 k5 k6 hcw;go_wp2_with (at_builtin; refine wpList_app rfl (.tmp 40) (.tmp 44) 32 rfl w1.heap.size 3 8 (.int .i64 0) info_int rfl Tryz.underlying32 rfl (n := ll.length) HOO.out (A := A3) (m := ks.length) (c := c3) rfl HR3.out (one_intI _) (by omega) (by omega) hs3 ?_; intro v5 w4 hown5 hg5 hat5)
    have HO4 : Hid (OwnI w4 w1.heap.size v5 (ll ++ ks)) := by
     show World.ownsRow _ _ _ _ _ _ _;unfold intV at *;rw [List.length_append, List.map_append];exact hown5
    have HB4 : Hid (Below w1.heap.size w1 w4) := below_app HB3.out HOO.out hg5 (Nat.le_refl _) hs3;clear hown5 hg5 hat5;go_wp2;go_roundw
    case rel => exact ⟨i + 1, HLT.out, by go_num, (by rw [HNX.out]; exact HO4), HB4⟩
    case measure => have := HLT.out; simp [intOf]; omega
   ·obtain rfl : i = ids.length := by omega
    have hiz : ¬ (ids.length : Int) < (ids.length : Int) := by omega
    rw [List.take_length] at HO;go_wp2;go_ret;exact ⟨_, rfl, own_base HO.out (by have := HB1.out.size; have := HB.out.size; omega), HB.out.trans (HB12.out.mono HB.out.size)⟩
set_option maxHeartbeats 2000000 in
set_option maxRecDepth 100000 in
theorem of_out (d : Dv) (t : Int) (w : World) (h : t < 0 ∨ (d.tn : Int) <= t) :
  Calls Tryz.prog 45 #[docV d, .int .i64 t] w fun e w' => ∃ v, e = .returned v /\ OwnI w' w.heap.size v [] /\ Below w.heap.size w w' := by
 unfold docV;obtain ⟨rid, name, len, day, sa, sn, sc, ta, tn, tc, na, nn, nc⟩ := d;simp only at h |-;obtain ⟨W0, hW0, hz0, hB0, hK0⟩ := doc_cells w rid name len day sa ta na sn sc tn tc nn nc;have HB := hI hB0;have HK := hI hK0;clear hB0 hK0;obtain ⟨k0, k1, k2, k3, k4, k5, k6⟩ := range7 (HK.out W0 (Below.refl _ _));go_enter Tryz.func45, Tryz.ntmps45
 go_upto_region 1 with fail
 (try rw [hW0])
 clear hW0;by_cases h0 : t < 0
 ·have c0 : decide (t < 0) = true := decide_eq_true h0;clear h;go_wp2;go_ret;exact ⟨_, rfl, OwnI.nil _ _, HB.out⟩
 ·have c0 : decide (t < 0) = false := decide_eq_false h0;have h1 : (tn : Int) <= t := by omega
  have c1 : decide (t ≥ (tn : Int)) = true := decide_eq_true h1;clear h;go_wp2;go_ret;exact ⟨_, rfl, OwnI.nil _ _, HB.out⟩
set_option maxHeartbeats 2000000 in
set_option maxRecDepth 100000 in
theorem of_root (d : Dv) (T : List Ti) (l : List Nt) (j : Nat) (x : Ti) (w : World) (hT : TiersR w w.heap.size d.ta d.tn T) (hl : NotesR w w.heap.size d.na d.nn l) (hnn : d.nn < 20) (htn : d.tn <= 1000000)
  (hj : j < d.tn) (hx : T[j]? = some x) (hk : x.kind = 0) :
  Calls Tryz.prog 45 #[docV d, .int .i64 (j : Int)] w fun e w' => ∃ v, e = .returned v /\ OwnI w' w.heap.size v (kidsL d.tn l 0 (j : Int)) /\ Below w.heap.size w w' := by
 have HC := hI fun (W : World) (hW : Below w.heap.size w W) (id t : Int) => kids_any d l id t W (hl.on hW) hnn (by omega)
 have HT := hI hT;clear hl hT;unfold docV at HC;unfold docV;obtain ⟨rid, name, len, day, sa, sn, sc, ta, tn, tc, na, nn, nc⟩ := d;simp only at HC hnn htn HT hj |-;obtain ⟨W0, hW0, hz0, hB0, hK0⟩ := doc_cells w rid name len day sa ta na sn sc tn tc nn nc;have HB := hI hB0;have HK := hI hK0;clear hB0 hK0;obtain ⟨ad, x', rfl, hab, hx', _, hcells⟩ := HT.out.at_ hj;rw [hx] at hx'
 cases hx'
 obtain ⟨q0, q1, q2, q3⟩ := hcells W0 HB.out;have b0 : (x.kind == 0) = true := beq_iff_eq.2 hk;obtain ⟨xn, xk, xr, xp⟩ := x;simp only at b0 q0 q1 q2 q3;have hjn : (j : Int) < (tn : Int) := by omega
 have hjl : ¬ (tn : Int) <= (j : Int) := by omega
 have hjA : (0 : Int) <= (j : Int) := by omega
 have hjB : ¬ (j : Int) < 0 := by omega
 have HCC := hI (HC.out W0 HB.out 0 (j : Int));obtain ⟨k0, k1, k2, k3, k4, k5, k6⟩ := range7 (HK.out W0 (Below.refl _ _));clear hcells hx hk;go_enter Tryz.func45, Tryz.ntmps45
 go_upto_region 1 with fail
 (try rw [hW0])
 clear hW0;go_wp2_with fail
 refine HCC.out.mono ?_;rintro e w1 ⟨v, rfl, hO, hb⟩;have HO := hI hO;have HB1 := hI hb;clear hO hb k0 k1 k2 k3 k4 k5 k6 q0 q1 q2 q3 b0;go_wp2;go_ret;exact ⟨_, rfl, own_base HO.out HB.out.size, HB.out.trans (HB1.out.mono HB.out.size)⟩
theorem ofP_any (d : Dv) (T : List Ti) (l : List Nt) (hL : LightN T l) (hU : TierUp T) (hnn : d.nn < 20) (htn : d.tn <= 1000000) : ∀ (f : Nat) (t : Int) (w : World), t < (f : Int) -> TiersR w w.heap.size d.ta d.tn T -> NotesR w w.heap.size d.na d.nn l ->
  Calls Tryz.prog 45 #[docV d, .int .i64 t] w fun e w' => ∃ v, e = .returned v /\ OwnI w' w.heap.size v (if t < 0 ∨ (T.length : Int) <= t then [] else ofL T l t) /\ Below w.heap.size w w'
 | 0, t, w, hf, hT, hl => by
  rw [if_pos (.inl (by omega))];exact of_out d t w (.inl (by omega))
 | f + 1, t, w, hf, hT, hl => by
  have hTl := hT.len;by_cases h : t < 0 ∨ (T.length : Int) <= t
  ·rw [if_pos h];exact of_out d t w (by rw [hTl] at h; exact h)
  ·rw [if_neg h];obtain ⟨j, rfl⟩ : ∃ j : Nat, t = (j : Int) := ⟨t.toNat, by omega⟩;have hj : j < T.length := by omega
   have hx : T[j]? = some T[j] := List.getElem?_eq_getElem hj;have htt : tierT T (j : Int) = T[j] := by unfold tierT; rw [List.getD, Int.toNat_natCast, hx]; rfl
   have hpo := progOf_is hL hU (j + 1) (j : Int) (by omega) (by omega) (by omega);have hll := ofL_len (T := T) (l := l) (tier := (j : Int));have hnl := hl.len;unfold progOf at hpo;rw [if_neg (by omega), htt, hTl] at hpo;by_cases hk : T[j].kind = 0
   ·rw [if_pos hk] at hpo;rw [<- hpo];exact of_root d T l j T[j] w hT hl hnn htn (by omega) hx hk
   ·rw [if_neg hk] at hpo;obtain ⟨hp0, hp1⟩ := hU (j : Int) (by omega) (by omega) (by rw [htt]; exact hk);rw [htt] at hp0 hp1;rw [progOf_is hL hU j _ hp0 (by omega) (by omega)] at hpo;have hpl := ofL_len (T := T) (l := l) (tier := T[j].parent);rw [<- hpo] at hll |-;refine of_step d T l j T[j] (ofL T l T[j].parent) w hT hl hnn htn (by omega) hx hk (by omega) (by omega) fun W hW => ?_
    have ih := ofP_any d T l hL hU hnn htn f T[j].parent W (by omega) (hT.on hW) (hl.on hW);rw [if_neg (by omega)] at ih;exact ih
def ofI (T : List Ti) (l : List Nt) (t : Int) : List Int := if t < 0 ∨ (T.length : Int) <= t then [] else ofL T l t
theorem ofI_len {T : List Ti} {l : List Nt} {t : Int} : (ofI T l t).length <= l.length := by
 unfold ofI;split
 ·exact Nat.zero_le _
 ·exact ofL_len
def wordsL (T : List Ti) (l : List Nt) (id : Int) (K : Nat) : List Int := (ofI T l (roleT T 2)).filter fun x => decide (id ∈ chainL l x K)
theorem filter_next {p : Int -> Bool} {ids : List Int} {i : Nat} {x : Int} (h : ids[i]? = some x) : (ids.take (i + 1)).filter p = (ids.take i).filter p ++ (if p x = true then [x] else []) := by
 rw [List.take_add_one, h, List.filter_append];simp [List.filter_cons]
set_option maxHeartbeats 4000000 in
set_option maxRecDepth 100000 in
theorem words_any (d : Dv) (T : List Ti) (l : List Nt) (id : Int) (K : Nat) (w : World) (hT : TiersR w w.heap.size d.ta d.tn T) (hl : NotesR w w.heap.size d.na d.nn l) (hL : LightN T l) (hU : TierUp T) (hnn : d.nn < 20) (htn : d.tn <= 1000000)
  (hend : ∀ x, curF l x K = none) (hK : K <= 1000000) :
  Calls Tryz.prog 37 #[docV d, .int .i64 id] w fun e w' => ∃ v, e = .returned v /\ OwnI w' w.heap.size v (wordsL T l id K) /\ Below w.heap.size w w' := by
 have hTl := hT.len;have hlen : (ofI T l (roleT T 2)).length <= 1000000 := by have := ofI_len (T := T) (l := l) (t := roleT T 2); have := hl.len; omega
 have HRO := hI fun (W : World) (hW : Below w.heap.size w W) => role_any d.ta d.tn d.tc T 2 W (hT.on hW) (by omega)
 have hrl : roleT T 2 < ((T.length + 1 : Nat) : Int) := by rcases roleT_some T 2 with e | ⟨_, e, _⟩ <;> omega
 have HOF : Hid (∀ W, Below w.heap.size w W -> Calls Tryz.prog 45 #[docV d, .int .i64 (roleT T 2)] W fun e w' => ∃ v, e = .returned v /\ OwnI w' W.heap.size v (ofI T l (roleT T 2)) /\ Below W.heap.size W w') := fun W hW => ofP_any d T l hL hU hnn htn (T.length + 1) (roleT T 2) W hrl (hT.on hW) (hl.on hW)
 have HCH := hI fun (W : World) (hW : Below w.heap.size w W) (x : Int) => chain_any d l x K W (hl.on hW) (by omega) (hend x) hK
 unfold wordsL;obtain ⟨rt, hrt⟩ : ∃ rt, roleT T 2 = rt := ⟨_, rfl⟩;rw [hrt] at HRO HOF hlen |-;obtain ⟨ids, hids⟩ : ∃ ids, ofI T l rt = ids := ⟨_, rfl⟩;rw [hids] at HOF hlen |-;clear hT hl hL hU hend hTl hrl hrt hids;unfold docV at HOF HCH;unfold docV;obtain ⟨rid, name, len, day, sa, sn, sc, ta, tn, tc, na, nn, nc⟩ := d;simp only at HRO HOF HCH hnn htn |-;obtain ⟨W0, hW0, hz0, hB0, hK0⟩ := doc_cells w rid name len day sa ta na sn sc tn tc nn nc;have HB := hI hB0;have HK := hI hK0;clear hB0 hK0;go_enter Tryz.func37, Tryz.ntmps37
 go_upto_region 2 with fail
 (try rw [hW0])
 clear hW0;refine wp_region_told [Told.is (.agg #[.int .i64 rid, .string name, .int .i64 len, .int .i64 day, .slice sa sn sc, .slice ta tn tc, .slice na nn nc]), Told.is (.pointer (some ⟨w.heap.size, 5, none⟩)), Told.is (.slice ta tn tc), Told.is (.int .i64 rt), Told.such (fun v W => OwnI W W0.heap.size v ids) (fun v W W' h hb => h.on hb), Told.is (.int .i64 (ids.length : Int)), Told.is (.int .i64 0)] (by kernel_rfl) (by kernel_rfl) ?_ ?_
 ·refine And.intro (fun w1 vals hB hd K hK => ?_) ?_
  ·clear hd;simp only [putAll, Act.put, pS] at hK |-;refine gwp_none rfl ?_;obtain ⟨k0, k1, k2, k3, k4, k5, k6⟩ := range7 (HK.out w1 hB);go_simp;exact hK _ _ rfl bR
  refine And.intro (fun w1 vals hB hd K hK => ?_) ?_
  ·clear hd;simp only [putAll, Act.put, pS] at hK |-;refine gwp_none rfl ?_;go_simp;exact hK _ _ rfl bR
  refine And.intro (fun w1 vals hB hd K hK => ?_) ?_
  ·have e1 := tI (hd 1 rfl) rfl;clear hd;simp only [putAll, Act.put, pS] at hK |-;simp only [e1] at hK |-;clear e1;refine gwp_none rfl ?_;have k5 : w1.cell? ⟨w.heap.size, 5, none⟩ = some (.slice ta tn tc) := HK.out w1 hB 5 _ rfl;go_simp;exact hK _ _ rfl bR
  refine And.intro (fun w1 vals hB hd K hK => ?_) ?_
  ·have e2 := tI (hd 2 rfl) rfl;clear hd;simp only [putAll, Act.put, pS] at hK |-;simp only [e2] at hK |-;clear e2;refine gwp_none rfl ?_;go_simp;refine (HRO.out w1 (HB.out.trans (hB.mono HB.out.size))).mono ?_;rintro e w2 ⟨rfl, hb⟩;exact hK _ _ rfl hb
  refine And.intro (fun w1 vals hB hd K hK => ?_) ?_
  ·have e0 := tI (hd 0 rfl) rfl;have e3 := tI (hd 3 rfl) rfl;clear hd;simp only [putAll, Act.put, pS] at hK |-;simp only [e0, e3] at hK |-;clear e0 e3;refine gwp_none rfl ?_;go_simp;refine (HOF.out w1 (HB.out.trans (hB.mono HB.out.size))).mono ?_;rintro e w2 ⟨v, rfl, hO, hb⟩;exact hK _ _ (own_base hO hB.size) hb
  refine And.intro (fun w1 vals hB hd K hK => ?_) ?_
  ·have p4 := told_at (hd 4 rfl) rfl;simp only [Told.holds] at p4;clear hd;obtain ⟨x4, hx4⟩ : ∃ x, vals 4 = x := ⟨_, rfl⟩;rw [hx4] at p4;simp only [putAll, Act.put, pS] at hK |-;simp only [hx4] at hK |-;clear hx4;refine gwp_none rfl ?_;obtain ⟨A3, c3, rfl, _, _, _⟩ := OwnI.form p4;go_simp;exact hK _ _ rfl bR
  refine And.intro (fun w1 vals hB hd K hK => ?_) ?_
  ·clear hd;simp only [putAll, Act.put, pS] at hK |-;refine gwp_none rfl ?_;go_simp;exact hK _ _ rfl bR
  exact trivial
 ·intro w1 vals hB hd;have p4 := told_at (hd 4 (by decide)) rfl;simp only [Told.holds] at p4;have e5 := tI (hd 5 (by decide)) rfl;have e6 := tI (hd 6 (by decide)) rfl;obtain ⟨x4, hx4⟩ : ∃ x, vals 4 = x := ⟨_, rfl⟩;rw [hx4] at p4;clear hd;simp only [putAll, Act.put, pS];simp only [hx4, e5, e6];clear hx4 e5 e6;have HO7 := hI p4;have HB1 : Hid (Below W0.heap.size W0 w1) := hB;obtain ⟨A7, c7, hv7, h7a, h7b, h7r⟩ := OwnI.form HO7.out;subst hv7;have HIR := hI h7r;clear hB p4 h7a h7b h7r;go_wp2_with fail
  go_loopw [5, 7, 14] (fun v5 v7 v14 wr => ∃ i : Nat, i <= ids.length /\ v14 = .int .i64 i /\ Hid (OwnI wr w1.heap.size v5 ((ids.take i).filter fun x => decide (id ∈ chainL l x K))) /\ Hid (Below w1.heap.size w1 wr)) (fun _ _ v14 _ => ids.length - (intOf v14).toNat)
  case atStart => exact ⟨0, Nat.zero_le _, rfl, OwnI.nil _ _, Below.refl _ _⟩
  case round =>
   obtain ⟨i, hi, rfl, HO, HB2⟩ := hrel;obtain ⟨w2, hw2⟩ : ∃ w2, wr = w2 := ⟨_, rfl⟩;rw [hw2] at HO HB2 |-;clear hw2;have HB12 : Hid (Below W0.heap.size W0 w2) := HB1.out.trans (HB2.out.mono HB1.out.size);by_cases hlt : i < ids.length
   ·have hiz : (i : Int) < (ids.length : Int) := by omega
    have hiA : (0 : Int) <= (i : Int) := by omega
    obtain ⟨bd, x, hA, hbb, hidx, hc⟩ := HIR.out.at_ hlt;subst hA;have hcw : w2.cell? (bd.add i) = some (.int .i64 x) := (HB2.out.cell (by rw [block_of_add]; exact hbb)).trans hc;have HLT := hI hlt;have HNX := hI (filter_next (p := fun x => decide (id ∈ chainL l x K)) hidx)
    have hpt : ((ids.take i).filter fun x => decide (id ∈ chainL l x K)).length <= 1000000 := by
     have h1 := List.length_filter_le (fun x => decide (id ∈ chainL l x K)) (ids.take i);rw [List.length_take] at h1;omega
    have HCC := hI (HCH.out w2 (HB.out.trans (HB12.out.mono HB.out.size)) x);obtain ⟨ll, hll⟩ : ∃ ll, ((ids.take i).filter fun x => decide (id ∈ chainL l x K)) = ll := ⟨_, rfl⟩;rw [hll] at HNX hpt HO;obtain ⟨ch, hch⟩ : ∃ ch, chainL l x K = ch := ⟨_, rfl⟩;have HNX2 : Hid ((ids.take (i + 1)).filter (fun x => decide (id ∈ chainL l x K)) = ll ++ if decide (id ∈ ch) = true then [x] else []) := by rw [<- hch]; exact HNX.out
    rw [hch] at HCC;have hsz := HB2.out.size;clear hc hidx hll HNX hch;obtain ⟨k0, k1, k2, k3, k4, k5, k6⟩ := range7 (HK.out w2 HB12.out);go_wp2_with fail
    refine HCC.out.mono ?_;rintro e w3 ⟨v, rfl, hO3, hb3⟩;have HAS := hI (has_any w2.heap.size v ch id w3 hO3);have HOO := hI (HO.out.on hb3);have HB3 : Hid (Below w1.heap.size w1 w3) := HB2.out.trans (hb3.mono hsz);have hs3 := HB3.out.size;clear hO3 hb3 HO k0 k1 k2 k3 k4 k5 k6 hcw;obtain ⟨bb, hbb⟩ : ∃ bb, decide (id ∈ ch) = bb := ⟨_, rfl⟩;rw [hbb] at HAS HNX2;clear hbb
    cases bb with
    | false =>
     go_wp2_with (with_reducible refine HAS.out.mono ?_; rintro e w4 ⟨rfl, rfl⟩)
     go_roundw
     case rel =>
      (repeat apply Exists.intro)
      refine ⟨?_, rfl⟩;exact ⟨i + 1, HLT.out, by go_num, (by rw [HNX2.out, if_neg (by simp), List.append_nil]; exact HOO), HB3⟩
     case measure => have := HLT.out; simp [intOf]; omega
    | true =>
     go_wp2_with (first | (with_reducible refine HAS.out.mono ?_; rintro e w4 ⟨rfl, rfl⟩) | (at_builtin; refine wpList_app1 rfl (.tmp 23) (.tmp 25) 32 rfl w1.heap.size 3 8 (.int .i64 0) info_int rfl Tryz.underlying32 rfl HOO.out rfl rfl (by omega) (by omega) hs3 ?_; rintro v5 w4 hown5 hb5 hs5 hk5; clear hk5))
     have HO4 : Hid (OwnI w4 w1.heap.size v5 (ll ++ [x])) := own_i hown5;have HB4 : Hid (Below w1.heap.size w1 w4) := HB3.out.trans hb5;clear hown5 hb5;go_wp2;go_roundw
     case rel =>
      (repeat apply Exists.intro)
      refine ⟨?_, rfl⟩;exact ⟨i + 1, HLT.out, by go_num, (by rw [HNX2.out, if_pos (by simp)]; exact HO4), HB4⟩
     case measure => have := HLT.out; simp [intOf]; omega
   ·obtain rfl : i = ids.length := by omega
    have hiz : ¬ (ids.length : Int) < (ids.length : Int) := by omega
    rw [List.take_length] at HO;go_wp2;go_ret;exact ⟨_, rfl, own_base HO.out (by have := HB1.out.size; have := HB.out.size; omega), HB.out.trans (HB12.out.mono HB.out.size)⟩
def readyB (T : List Ti) : Bool := decide (0 <= roleT T 2) && (decide (0 <= roleT T 3) && decide (0 <= roleT T 4))
def wordB (T : List Ti) (l : List Nt) (id : Int) : Bool := (getN l id).isSome && (((getN l id).getD nt0).tier == roleT T 2)
end
section
open Go.RowKit Ru Lay Srt Col
def shownB (T : List Ti) (l : List Nt) (id : Int) : Bool := wordB T l id && readyB T
def formsL (T : List Ti) (l : List Nt) (id : Int) : List ByteArray := if shownB T l id = true then (kidsL T.length l id (roleT T 3)).map (textN l) else []
def glossT (T : List Ti) (l : List Nt) (m : Int) : ByteArray := (kidsL T.length l m (roleT T 4)).foldl (fun _ k => textN l k) ⟨#[]⟩
def glossesL (T : List Ti) (l : List Nt) (id : Int) : List ByteArray := if shownB T l id = true then (kidsL T.length l id (roleT T 3)).map (glossT T l) else []
theorem glosses_len {T : List Ti} {l : List Nt} {id : Int} : (glossesL T l id).length = (formsL T l id).length := by
 unfold glossesL formsL;split
 ·rw [List.length_map, List.length_map]
 ·rfl
theorem forms_len {T : List Ti} {l : List Nt} {id : Int} : (formsL T l id).length <= l.length := by
 unfold formsL;split
 ·rw [List.length_map]; exact kidsL_len
 ·exact Nat.zero_le _
theorem foldl_take {α : Type} (f : Int -> α) (z : α) {l : List Int} {i : Nat} {k : Int} (h : l[i]? = some k) : (l.take (i + 1)).foldl (fun _ k => f k) z = f k := by
 rw [List.take_add_one, h, List.foldl_append];rfl
def joinD (l : List ByteArray) : ByteArray := ⟨(Lib.join (l.map (·.data.toList)) [45]).toArray⟩
theorem lens_le {l : List ByteArray} {m : Nat} (h : ∀ s ∈ l, s.size <= m) : Lib.lens (l.map (·.data.toList)) <= l.length * m := by
 induction l with
 | nil => simp [Lib.lens]
 | cons a r ih =>
  have h1 := ih fun s hs => h s (List.mem_cons_of_mem _ hs)
  have h2 := h a List.mem_cons_self;have h3 : a.data.toList.length = a.size := Array.length_toList;unfold Lib.lens at h1 |-;rw [List.map_cons, List.map_cons, List.sum_cons, List.length_cons, Nat.succ_mul];omega
theorem joinD_sz {l : List ByteArray} {m : Nat} (h : ∀ s ∈ l, s.size <= m) : (joinD l).size <= l.length * (m + 1) := by
 have h1 := lens_le h;unfold joinD;show (List.toArray _).size <= _;rw [List.size_toArray]
 cases l with
 | nil => simp [Lib.join_nil]
 | cons a r =>
  unfold Lib.lens at h1;rw [List.map_cons, List.map_cons, List.sum_cons] at h1;rw [List.map_cons, Lib.join_cons, List.length_append, Lib.joinTail_length];unfold Lib.lens;rw [List.length_map];simp only [List.length_cons, List.length_singleton, List.length_nil] at h1 |-;have : (r.length + 1) * (m + 1) = (r.length + 1) * m + (r.length + 1) := Nat.mul_succ _ _;omega
def row1 (T : List Ti) (l : List Nt) (ws : List Int) : List ByteArray := ws.map (textN l)
def row2 (T : List Ti) (l : List Nt) (ws : List Int) : List ByteArray := ws.map fun x => joinD (formsL T l x)
def row3 (T : List Ti) (l : List Nt) (ws : List Int) : List ByteArray := ws.map fun x => joinD (glossesL T l x)
def someB (T : List Ti) (l : List Nt) (ws : List Int) : Bool := ws.any fun x => decide (0 < (formsL T l x).length)
def rowsW (T : List Ti) (l : List Nt) (ws : List Int) : List (List ByteArray) := if someB T l ws = true then [row1 T l ws, row2 T l ws, row3 T l ws] else [row1 T l ws]
def rowsL (T : List Ti) (l : List Nt) (id : Int) (K : Nat) : List (List ByteArray) :=
 if (getN l id).isSome = true then (if wordsL T l id K = [] then [[textN l id]] else rowsW T l (wordsL T l id K)) else []
theorem someB_next {T : List Ti} {l : List Nt} {ws : List Int} {i : Nat} {x : Int} (h : ws[i]? = some x) : someB T l (ws.take (i + 1)) = (someB T l (ws.take i) || decide (0 < (formsL T l x).length)) := by
 unfold someB;rw [List.take_add_one, h, List.any_append];simp
theorem map_next {α : Type} (f : Int -> α) {ws : List Int} {i : Nat} {x : Int} (h : ws[i]? = some x) : (ws.take (i + 1)).map f = (ws.take i).map f ++ [f x] := by
 rw [List.take_add_one, h, List.map_append];rfl
def TxtZ (l : List Nt) : Prop := ∀ x ∈ l, x.text.size <= 200
theorem textN_sz {l : List Nt} (h : TxtZ l) (id : Int) : (textN l id).size <= 200 := by
 unfold textN
 cases e : getN l id with
 | none => exact Nat.zero_le _
 | some x => exact h x (List.mem_of_find?_eq_some (by unfold getN at e; exact e))
theorem forms_sz {T : List Ti} {l : List Nt} (h : TxtZ l) {id : Int} : ∀ s ∈ formsL T l id, s.size <= 200 := fun s hs => by
 unfold formsL at hs;split at hs
 ·obtain ⟨k, _, rfl⟩ := List.mem_map.1 hs;exact textN_sz h k
 ·cases hs
theorem glossT_sz {T : List Ti} {l : List Nt} (h : TxtZ l) (m : Int) : (glossT T l m).size <= 200 := by
 unfold glossT;obtain ⟨ks, _⟩ : ∃ ks, kidsL T.length l m (roleT T 4) = ks := ⟨_, rfl⟩
 have : ∀ (ks : List Int) (z : ByteArray), z.size <= 200 -> (ks.foldl (fun _ k => textN l k) z).size <= 200 := fun ks => by
  induction ks with
  | nil => exact fun z hz => hz
  | cons k ks ih => exact fun z hz => ih _ (textN_sz h k)
 exact this _ _ (Nat.zero_le _)
theorem glosses_sz {T : List Ti} {l : List Nt} (h : TxtZ l) {id : Int} : ∀ s ∈ glossesL T l id, s.size <= 200 := fun s hs => by
 unfold glossesL at hs;split at hs
 ·obtain ⟨k, _, rfl⟩ := List.mem_map.1 hs;exact glossT_sz h k
 ·cases hs
theorem wordsL_len {T : List Ti} {l : List Nt} {id : Int} {K : Nat} : (wordsL T l id K).length <= l.length := by
 unfold wordsL;exact Nat.le_trans (List.length_filter_le _ _) ofI_len
theorem rowsL_sz {T : List Ti} {l : List Nt} {id : Int} {K : Nat} (h : TxtZ l) (hn : l.length <= 20) : SzL (rowsL T l id K) := by
 have h1 := fun x => textN_sz h x
 have h2 : ∀ x, (joinD (formsL T l x)).size <= 100000 := fun x => by
  have g1 := joinD_sz (forms_sz (T := T) h (id := x));have g2 := forms_len (T := T) (l := l) (id := x);have : (formsL T l x).length * (200 + 1) <= 20 * 201 := Nat.mul_le_mul_right 201 (by omega);omega
 have h3 : ∀ x, (joinD (glossesL T l x)).size <= 100000 := fun x => by
  have g1 := joinD_sz (glosses_sz (T := T) h (id := x));have g2 := forms_len (T := T) (l := l) (id := x);rw [glosses_len] at g1;have : (formsL T l x).length * (200 + 1) <= 20 * 201 := Nat.mul_le_mul_right 201 (by omega);omega
 have hw := wordsL_len (T := T) (l := l) (id := id) (K := K)
 have r1 : SzR (row1 T l (wordsL T l id K)) := ⟨by unfold row1; rw [List.length_map]; omega, fun s hs => by
  obtain ⟨x, _, rfl⟩ := List.mem_map.1 hs;have := h1 x;omega⟩
 have r2 : SzR (row2 T l (wordsL T l id K)) := ⟨by unfold row2; rw [List.length_map]; omega, fun s hs => by
  obtain ⟨x, _, rfl⟩ := List.mem_map.1 hs;exact h2 x⟩
 have r3 : SzR (row3 T l (wordsL T l id K)) := ⟨by unfold row3; rw [List.length_map]; omega, fun s hs => by
  obtain ⟨x, _, rfl⟩ := List.mem_map.1 hs;exact h3 x⟩
 unfold rowsL rowsW;split
 ·split
  ·refine ⟨by simp, fun r hr => ?_⟩;rw [List.mem_singleton] at hr;subst hr;refine ⟨by simp, fun s hs => ?_⟩;rw [List.mem_singleton] at hs;subst hs;have := h1 id;omega
  ·split
   ·refine ⟨by simp, fun r hr => ?_⟩;simp only [List.mem_cons, List.not_mem_nil, or_false] at hr;rcases hr with rfl | rfl | rfl
    ·exact r1
    ·exact r2
    ·exact r3
   ·refine ⟨by simp, fun r hr => ?_⟩;rw [List.mem_singleton] at hr;subst hr;exact r1
 ·exact ⟨Nat.zero_le _, fun r hr => by cases hr⟩
def kidF (T : List Ti) (l : List Nt) (id tier : Int) : List Int := (ofI T l tier).filter fun k => decide (((getN l k).getD nt0).parent = id)
def quoB (s : ByteArray) : ByteArray := ⟨#[34]⟩ ++ s ++ ⟨#[34]⟩
def exL (T : List Ti) (l : List Nt) (id : Int) (K : Nat) (WD : Int) : List ByteArray :=
 if (getN l id).isSome = true then wrapL (rowsL T l id K) WD ++ (kidF T l id (roleT T 5)).map fun x => quoB (textN l x) else []
end
section
open Go.RowKit Ru Lay
attribute [local go_sem ↓] Go.wp_at_zero Go.wp_at_succ
def encD (d : Dv) : List Value := [.int .i64 d.rid, .string d.name, .int .i64 d.len, .int .i64 d.day, .slice d.sa d.sn d.sc, .slice d.ta d.tn d.tc, .slice d.na d.nn d.nc]
def dv0 : Dv := ⟨0, ⟨#[]⟩, 0, 0, none, 0, 0, none, 0, 0, none, 0, 0⟩
structure Dc where
 d : Dv
 T : List Ti
 l : List Nt
instance : Inhabited Dc := ⟨⟨dv0, [], []⟩⟩
def encC (x : Dc) : List Value := encD x.d
theorem encC_len (x : Dc) : (encC x).length = 7 := rfl
def DcsR (w : World) (B : Nat) (A : Option Addr) (n : Nat) (D : List Dc) : Prop := RecR encC 7 w B A n D /\ ∀ x ∈ D, TiersR w B x.d.ta x.d.tn x.T /\ NotesR w B x.d.na x.d.nn x.l
theorem DcsR.on {w w' : World} {n : Nat} {A : Option Addr} {D : List Dc} (h : DcsR w w.heap.size A n D) (hb : Below w.heap.size w w') : DcsR w' w'.heap.size A n D := ⟨RecR.on h.1 hb, fun x hx => ⟨(h.2 x hx).1.on hb, (h.2 x hx).2.on hb⟩⟩
theorem DcsR.len {w : World} {B n : Nat} {A : Option Addr} {D : List Dc} (h : DcsR w B A n D) : D.length = n := h.1.2
theorem DcsR.at_ {w : World} {B n k : Nat} {A : Option Addr} {D : List Dc} (hh : DcsR w B A n D) (hk : k < n) :
  ∃ ad x, A = some ad /\ ad.block < B /\ D[k]? = some x /\ x ∈ D /\ ∀ W, Below B w W -> W.cell? (ad.add (k * 7)) = some (.int .i64 x.d.rid) /\ W.cell? ⟨(ad.add (k * 7)).block, (ad.add (k * 7)).off + 1, none⟩ = some (.string x.d.name) /\ W.cell? ⟨(ad.add (k * 7)).block, (ad.add (k * 7)).off + 2, none⟩ = some (.int .i64 x.d.len) /\ W.cell? ⟨(ad.add (k * 7)).block, (ad.add (k * 7)).off + 3, none⟩ = some (.int .i64 x.d.day) /\ W.cell? ⟨(ad.add (k * 7)).block, (ad.add (k * 7)).off + 4, none⟩ = some (.slice x.d.sa x.d.sn x.d.sc) /\ W.cell? ⟨(ad.add (k * 7)).block, (ad.add (k * 7)).off + 5, none⟩ = some (.slice x.d.ta x.d.tn x.d.tc) /\ W.cell? ⟨(ad.add (k * 7)).block, (ad.add (k * 7)).off + 6, none⟩ = some (.slice x.d.na x.d.nn x.d.nc) := by
 obtain ⟨ad, x, e, hb, hx, _, _⟩ := RecR.at_ encC_len (by omega) hh.1 hk;refine ⟨ad, x, e, hb, hx, List.mem_of_getElem? hx, fun W hW => ?_⟩;obtain ⟨ad', x', e', _, hx', h0, hj⟩ := RecR.at_ encC_len (by omega) (RecR.below hh.1 hW) hk;rw [e] at e'
 cases e'
 rw [hx] at hx'
 cases hx'
 exact ⟨h0 _ rfl, hj 1 _ (by omega) rfl, hj 2 _ (by omega) rfl, hj 3 _ (by omega) rfl, hj 4 _ (by omega) rfl, hj 5 _ (by omega) rfl, hj 6 _ (by omega) rfl⟩
def docF (D : List Dc) (rec : Int) : Option Dc := D.find? fun x => decide (x.d.rid = rec)
theorem docF_here {D : List Dc} {rec : Int} : ∀ {k : Nat} {x : Dc}, (∀ j y, j < k -> D[j]? = some y -> y.d.rid ≠ rec) -> D[k]? = some x -> x.d.rid = rec -> docF D rec = some x := by
 induction D with
 | nil => intro k x _ hx; simp at hx
 | cons y t ih =>
  intro k x hp hx h;unfold docF
  cases k with
  | zero =>
   simp at hx
   subst hx;rw [List.find?_cons_of_pos (by simpa using h)]
  | succ k =>
   rw [List.find?_cons_of_neg (by simpa using hp 0 y (by omega) rfl)];rw [List.getElem?_cons_succ] at hx;exact ih (fun j z hj hz => hp (j + 1) z (by omega) (by rw [List.getElem?_cons_succ]; exact hz)) hx h
theorem docF_none {D : List Dc} {rec : Int} (hp : ∀ j y, j < D.length -> D[j]? = some y -> y.d.rid ≠ rec) : docF D rec = none := by
 unfold docF;rw [List.find?_eq_none];intro x hx;obtain ⟨j, hj⟩ := List.getElem?_of_mem hx;simpa using hp j x (List.getElem?_eq_some_iff.1 hj).1 hj
theorem docF_mem {D : List Dc} {rec : Int} {x : Dc} (h : docF D rec = some x) : x ∈ D /\ x.d.rid = rec := by
 unfold docF at h;exact ⟨List.mem_of_find?_eq_some h, by simpa using List.find?_some h⟩
structure DcOk (x : Dc) : Prop where
 ok : DocOk x.T x.l
 nn : x.d.nn <= 14
 tn : x.d.tn <= 6
def docFV (o : Option Dc) : Value := .tuple #[docV ((o.map Dc.d).getD dv0), .bool o.isSome]
set_option maxHeartbeats 4000000 in
set_option maxRecDepth 100000 in
theorem docP_any (A : Option Addr) (n c : Nat) (D : List Dc) (rec : Int) (w : World) (hD : DcsR w w.heap.size A n D) (hn : n <= 9223372036854775807) :
  Calls Tryz.prog 50 #[.slice A n c, .int .i64 rec] w fun e w' => e = .returned (docFV (docF D rec)) /\ Below w.heap.size w w' := by
 have HL := hI hD;have HLN := hI hD.len;clear hD;go_enter Tryz.func50, Tryz.ntmps50
 go_wp2_with fail
 obtain ⟨W0, hW0⟩ : ∃ W0, w.alloc (.cells #[.int .i64 0, .string ⟨#[]⟩, .int .i64 0, .int .i64 0, .slice none 0 0, .slice none 0 0, .slice none 0 0] 38) = W0 := ⟨_, rfl⟩;have HB : Hid (Below w.heap.size w W0) := by rw [<- hW0]; exact (Below.refl _ w).alloc (Nat.le_refl _) _
 have hz0 : W0.heap.size = w.heap.size + 1 := by rw [<- hW0]; simp
 have HTH : Hid (W0.there w.heap.size 0 7) := by
  have h := there_new w #[.int .i64 0, .string ⟨#[]⟩, .int .i64 0, .int .i64 0, .slice none 0 0, .slice none 0 0, .slice none 0 0] 38;rw [hW0] at h;exact h
 have HRG : Hid (W0.rangeAt w.heap.size 0 [.int .i64 0, .string ⟨#[]⟩, .int .i64 0, .int .i64 0, .slice none 0 0, .slice none 0 0, .slice none 0 0]) := fun j v hv => by
  rw [<- hW0, Nat.zero_add, World.cell?_alloc_new, <- hv, <- List.getElem?_toArray]
 (try rw [hW0])
 clear hW0;go_loopw [7, 10] (fun v7 v10 wr => ∃ i : Nat, i <= n /\ v10 = .int .i64 i /\ Hid (∀ j y, j < i -> D[j]? = some y -> y.d.rid ≠ rec) /\ Hid (Below W0.heap.size W0 wr)) (fun _ v10 _ => n - (intOf v10).toNat)
 case atStart => exact ⟨0, Nat.zero_le _, rfl, fun j y h => by omega, Below.refl _ _⟩
 case round =>
  obtain ⟨i, hi, rfl, HP, HB0⟩ := hrel;have hsz := HB0.out.size;have hlt1 : w.heap.size < wr.heap.size := by omega
  have HTW := hI (there_below HB0.out (by omega) HTH.out);have HRW := hI (range_below HB0.out (by omega) HRG.out);by_cases hlt : i < n
  ·have hiz : (i : Int) < (n : Int) := by omega
   have hiA : (0 : Int) <= (i : Int) := by omega
   obtain ⟨ad, x, rfl, hab, hx, hxm, hcells⟩ := HL.out.at_ hlt;obtain ⟨q0, q1, q2, q3, q4, q5, q6⟩ := hcells wr (HB.out.trans (HB0.out.mono HB.out.size));have HX := hI hx;have HI := hI hlt;clear hx hcells hxm;by_cases he : x.d.rid = rec
   ·have HG : Hid (docF D rec = some x) := docF_here HP.out HX.out he;have hbe : (x.d.rid == rec) = true := beq_iff_eq.2 he;clear he;have c0 : wr.cell? ⟨w.heap.size, 0, none⟩ = some (.int .i64 0) := HRW.out 0 (.int .i64 0) rfl;have f0 : wr.frozen? ⟨w.heap.size, 0, none⟩ = false := (HTW.out 0 (by omega)).2;have c1 : wr.cell? ⟨w.heap.size, 1, none⟩ = some (.string ⟨#[]⟩) := HRW.out 1 (.string ⟨#[]⟩) rfl;have f1 : wr.frozen? ⟨w.heap.size, 1, none⟩ = false := (HTW.out 1 (by omega)).2;have c2 : wr.cell? ⟨w.heap.size, 2, none⟩ = some (.int .i64 0) := HRW.out 2 (.int .i64 0) rfl;have f2 : wr.frozen? ⟨w.heap.size, 2, none⟩ = false := (HTW.out 2 (by omega)).2;have c3 : wr.cell? ⟨w.heap.size, 3, none⟩ = some (.int .i64 0) := HRW.out 3 (.int .i64 0) rfl;have f3 : wr.frozen? ⟨w.heap.size, 3, none⟩ = false := (HTW.out 3 (by omega)).2;have c4 : wr.cell? ⟨w.heap.size, 4, none⟩ = some (.slice none 0 0) := HRW.out 4 (.slice none 0 0) rfl;have f4 : wr.frozen? ⟨w.heap.size, 4, none⟩ = false := (HTW.out 4 (by omega)).2;have c5 : wr.cell? ⟨w.heap.size, 5, none⟩ = some (.slice none 0 0) := HRW.out 5 (.slice none 0 0) rfl;have f5 : wr.frozen? ⟨w.heap.size, 5, none⟩ = false := (HTW.out 5 (by omega)).2;have c6 : wr.cell? ⟨w.heap.size, 6, none⟩ = some (.slice none 0 0) := HRW.out 6 (.slice none 0 0) rfl;have f6 : wr.frozen? ⟨w.heap.size, 6, none⟩ = false := (HTW.out 6 (by omega)).2;go_wp2;(try simp only [Exit.inBlock, Exit.then])
    refine bodyPost_ret (v := .tuple #[.agg #[.int .i64 x.d.rid, .string x.d.name, .int .i64 x.d.len, .int .i64 x.d.day, .slice x.d.sa x.d.sn x.d.sc, .slice x.d.ta x.d.tn x.d.tc, .slice x.d.na x.d.nn x.d.nc], .bool true]) ?_ rfl ⟨by rw [HG.out]; rfl, ?_⟩
    ·refine results_cell_of rfl _ _ w.heap.size [.int .i64 x.d.rid, .string x.d.name, .int .i64 x.d.len, .int .i64 x.d.day, .slice x.d.sa x.d.sn x.d.sc, .slice x.d.ta x.d.tn x.d.tc, .slice x.d.na x.d.nn x.d.nc] _ _ ?_ ?_ ?_ Tryz.underlying38 rfl (by kernel_rfl)
     ·rfl
     ·rfl
     ·exact World.rangeAt_alloc (World.rangeAt_setCells_same wr w.heap.size 0 [.int .i64 x.d.rid, .string x.d.name, .int .i64 x.d.len, .int .i64 x.d.day, .slice x.d.sa x.d.sn x.d.sc, .slice x.d.ta x.d.tn x.d.tc, .slice x.d.na x.d.nn x.d.nc] HTW.out) _
    ·have hbs := below_set (w := wr) (b := w.heap.size) (o := 0) (vs := [.int .i64 x.d.rid, .string x.d.name, .int .i64 x.d.len, .int .i64 x.d.day, .slice x.d.sa x.d.sn x.d.sc, .slice x.d.ta x.d.tn x.d.tc, .slice x.d.na x.d.nn x.d.nc]) (HB.out.trans (HB0.out.mono HB.out.size)) (Nat.le_refl _) (by omega);exact hbs.alloc (by rw [heap_setCells_size]; omega) _
   ·have hbe : (x.d.rid == rec) = false := beq_eq_false_iff_ne.2 he;have HP2 := hI (pre_step HP.out HX.out he);have HB1 : Hid (Below W0.heap.size W0 (wr.alloc (.cells #[.int .i64 x.d.rid, .string x.d.name, .int .i64 x.d.len, .int .i64 x.d.day, .slice x.d.sa x.d.sn x.d.sc, .slice x.d.ta x.d.tn x.d.tc, .slice x.d.na x.d.nn x.d.nc] 38))) := HB0.out.alloc hsz _;clear he;go_wp2;go_roundw
    case rel => exact ⟨i + 1, HI.out, by go_num, HP2, HB1⟩
    case measure => have := HI.out; simp [intOf]; omega
  ·obtain rfl : n = i := by omega
   have hiz : ¬ (n : Int) < (n : Int) := by omega
   have HG : Hid (docF D rec = none) := docF_none fun j y hj => HP.out j y (by rw [<- HLN.out]; exact hj)
   have c0 : wr.cell? ⟨w.heap.size, 0, none⟩ = some (.int .i64 0) := HRW.out 0 (.int .i64 0) rfl;have f0 : wr.frozen? ⟨w.heap.size, 0, none⟩ = false := (HTW.out 0 (by omega)).2;have c1 : wr.cell? ⟨w.heap.size, 1, none⟩ = some (.string ⟨#[]⟩) := HRW.out 1 (.string ⟨#[]⟩) rfl;have f1 : wr.frozen? ⟨w.heap.size, 1, none⟩ = false := (HTW.out 1 (by omega)).2;have c2 : wr.cell? ⟨w.heap.size, 2, none⟩ = some (.int .i64 0) := HRW.out 2 (.int .i64 0) rfl;have f2 : wr.frozen? ⟨w.heap.size, 2, none⟩ = false := (HTW.out 2 (by omega)).2;have c3 : wr.cell? ⟨w.heap.size, 3, none⟩ = some (.int .i64 0) := HRW.out 3 (.int .i64 0) rfl;have f3 : wr.frozen? ⟨w.heap.size, 3, none⟩ = false := (HTW.out 3 (by omega)).2;have c4 : wr.cell? ⟨w.heap.size, 4, none⟩ = some (.slice none 0 0) := HRW.out 4 (.slice none 0 0) rfl;have f4 : wr.frozen? ⟨w.heap.size, 4, none⟩ = false := (HTW.out 4 (by omega)).2;have c5 : wr.cell? ⟨w.heap.size, 5, none⟩ = some (.slice none 0 0) := HRW.out 5 (.slice none 0 0) rfl;have f5 : wr.frozen? ⟨w.heap.size, 5, none⟩ = false := (HTW.out 5 (by omega)).2;have c6 : wr.cell? ⟨w.heap.size, 6, none⟩ = some (.slice none 0 0) := HRW.out 6 (.slice none 0 0) rfl;have f6 : wr.frozen? ⟨w.heap.size, 6, none⟩ = false := (HTW.out 6 (by omega)).2;go_wp2;(try simp only [Exit.inBlock, Exit.then])
   refine bodyPost_ret (v := .tuple #[.agg #[.int .i64 0, .string ⟨#[]⟩, .int .i64 0, .int .i64 0, .slice none 0 0, .slice none 0 0, .slice none 0 0], .bool false]) ?_ rfl ⟨by rw [HG.out]; rfl, ?_⟩
   ·refine results_cell_of rfl _ _ w.heap.size [.int .i64 0, .string ⟨#[]⟩, .int .i64 0, .int .i64 0, .slice none 0 0, .slice none 0 0, .slice none 0 0] _ _ ?_ ?_ ?_ Tryz.underlying38 rfl (by kernel_rfl)
    ·rfl
    ·rfl
    ·exact World.rangeAt_setCells_same wr w.heap.size 0 [.int .i64 0, .string ⟨#[]⟩, .int .i64 0, .int .i64 0, .slice none 0 0, .slice none 0 0, .slice none 0 0] HTW.out
   ·exact below_set (w := wr) (b := w.heap.size) (o := 0) (vs := [.int .i64 0, .string ⟨#[]⟩, .int .i64 0, .int .i64 0, .slice none 0 0, .slice none 0 0, .slice none 0 0]) (HB.out.trans (HB0.out.mono HB.out.size)) (Nat.le_refl _) (by omega)
theorem results_cell1_of {P : Program} {fn : Func} {p : Tmp} {ty : TypeId} (h : fn.results = #[.cell p ty]) (tmps : Array Value) (w : World) (b : Nat) (cs : List Value) (d : TypeDesc)
  (hp : tmps.getD p undef = .pointer (some ⟨b, 0, none⟩)) (hc : w.rangeAt b 0 cs) (hu : P.underlying ty = some d) (hd : d.isRow = true) (hi : (P.info? ty).map (·.size) = some cs.length) :
  (results fn tmps).run P w = .ok (.agg cs.toArray) w := by
 have hp' : tmps[p]?.getD undef = .pointer (some ⟨b, 0, none⟩) := by simpa using hp
 simp [results, h, hp', asAddr, run_loadVar_mid w b 0 ty cs d hc hu hd hi]
set_option maxHeartbeats 4000000 in
set_option maxRecDepth 100000 in
theorem find_any (d : Dv) (T : List Ti) (w : World) (hT : TiersR w w.heap.size d.ta d.tn T) (htn : d.tn <= 1000000) :
  Calls Tryz.prog 61 #[docV d] w fun e w' => e = .returned (.agg #[.int .i64 (roleT T 2), .int .i64 (roleT T 3), .int .i64 (roleT T 4)]) /\ Below w.heap.size w w' := by
 have HRO := hI fun (W : World) (hW : Below w.heap.size w W) (r : Int) => role_any d.ta d.tn d.tc T r W (hT.on hW) (by omega)
 clear hT;unfold docV;obtain ⟨rid, name, len, day, sa, sn, sc, ta, tn, tc, na, nn, nc⟩ := d;simp only at HRO htn |-;have R2 := hI fun W hW => HRO.out W hW 2
 have R3 := hI fun W hW => HRO.out W hW 3
 have R4 := hI fun W hW => HRO.out W hW 4
 obtain ⟨a2, h2⟩ : ∃ a, roleT T 2 = a := ⟨_, rfl⟩;obtain ⟨a3, h3⟩ : ∃ a, roleT T 3 = a := ⟨_, rfl⟩;obtain ⟨a4, h4⟩ : ∃ a, roleT T 4 = a := ⟨_, rfl⟩;rw [h2] at R2;rw [h3] at R3;rw [h4] at R4;rw [h2, h3, h4];clear h2 h3 h4 HRO;go_enter Tryz.func61, Tryz.ntmps61
 go_wp2_with fail
 obtain ⟨p, hp⟩ : ∃ p, w.heap.size = p := ⟨_, rfl⟩;obtain ⟨W0, hW0⟩ : ∃ W0, ((w.alloc (.cells #[.int .i64 rid, .string name, .int .i64 len, .int .i64 day, .slice sa sn sc, .slice ta tn tc, .slice na nn nc] 38)).alloc (.cells #[.int .i64 0, .int .i64 0, .int .i64 0] 91)) = W0 := ⟨_, rfl⟩;have hz0 : W0.heap.size = p + 1 + 1 := by rw [<- hW0, <- hp]; simp
 have HB : Hid (Below w.heap.size w W0) := by rw [<- hW0]; exact ((Below.refl _ w).alloc (Nat.le_refl _) _).alloc (by simp) _
 have HTH : Hid (W0.there (p + 1) 0 3) := by
  have h := there_new (w.alloc (.cells #[.int .i64 rid, .string name, .int .i64 len, .int .i64 day, .slice sa sn sc, .slice ta tn tc, .slice na nn nc] 38)) #[.int .i64 0, .int .i64 0, .int .i64 0] 91;rw [hW0] at h;show W0.there _ _ _;rw [<- hp];simpa using h
 have HD : Hid (∀ W, BelowX (p + 1) W0 W -> W.rangeAt p 0 [.int .i64 rid, .string name, .int .i64 len, .int .i64 day, .slice sa sn sc, .slice ta tn tc, .slice na nn nc]) := fun W hW j v hv => by
  rw [hW.cell (p := ⟨p, 0 + j, none⟩) (by show p < _; omega) (by show p ≠ p + 1; omega)];rw [<- hW0, World.cell?_alloc_lt _ _ _ (by rw [<- hp]; simp), <- hp, Nat.zero_add, World.cell?_alloc_new w _ _ j, <- hv, <- List.getElem?_toArray]
 have HBX : Hid (∀ W, BelowX (p + 1) W0 W -> Below w.heap.size w W) := fun W hW => HB.out.trans (hW.below (by omega) (by omega))
 replace R2 := hI fun W (hW : BelowX (p + 1) W0 W) => R2.out W (HBX.out W hW)
 replace R3 := hI fun W (hW : BelowX (p + 1) W0 W) => R3.out W (HBX.out W hW)
 replace R4 := hI fun W (hW : BelowX (p + 1) W0 W) => R4.out W (HBX.out W hW)
 rw [hW0];simp only [hp];clear hW0;refine wp_region_toldX (q := (p + 1)) 10 [ToldX.is (.pointer (some ⟨p, 5, none⟩)), ToldX.is (.slice ta tn tc), ToldX.is (.int .i64 a2), ToldX.is (.pointer (some ⟨p, 5, none⟩)), ToldX.is (.slice ta tn tc), ToldX.is (.int .i64 a3), ToldX.is (.pointer (some ⟨p, 5, none⟩)), ToldX.is (.slice ta tn tc), ToldX.is (.int .i64 a4), ToldX.is (.agg #[.int .i64 a2, .int .i64 a3, .int .i64 a4]), ToldX.put (fun w => (p + 1) < w.heap.size /\ w.rangeAt (p + 1) 0 [.int .i64 a2, .int .i64 a3, .int .i64 a4]) (fun w w' ⟨h0, h1⟩ hb => ⟨Nat.lt_of_lt_of_le h0 hb.size, range_below hb h0 h1⟩)] (by kernel_rfl) (by kernel_rfl) rfl ?_ ?_
 ·refine And.intro (fun w1 vals hB hd a1 ha1 K hK => ?_) ?_
  ·clear hd;subst ha1;simp only [putAll, Act.put, pS] at hK |-;refine gwp_none rfl ?_;go_simp;exact hK _ _ rfl (.inl bR)
  refine And.intro (fun w1 vals hB hd a1 ha1 K hK => ?_) ?_
  ·have e0 := tIX (hd 0 rfl) rfl;clear hd;subst ha1;simp only [putAll, Act.put, pS] at hK |-;simp only [e0] at hK |-;clear e0;refine gwp_none rfl ?_;have k5 : w1.cell? ⟨p, 5, none⟩ = some (.slice ta tn tc) := HD.out w1 hB 5 _ rfl;go_simp;exact hK _ _ rfl (.inl bR)
  refine And.intro (fun w1 vals hB hd a1 ha1 K hK => ?_) ?_
  ·have e1 := tIX (hd 1 rfl) rfl;clear hd;subst ha1;simp only [putAll, Act.put, pS] at hK |-;simp only [e1] at hK |-;clear e1;refine gwp_none rfl ?_;go_simp;refine (R2.out w1 hB).mono ?_;rintro e w4 ⟨rfl, hb4⟩;exact hK _ _ rfl (.inl hb4)
  refine And.intro (fun w1 vals hB hd a1 ha1 K hK => ?_) ?_
  ·clear hd;subst ha1;simp only [putAll, Act.put, pS] at hK |-;refine gwp_none rfl ?_;go_simp;exact hK _ _ rfl (.inl bR)
  refine And.intro (fun w1 vals hB hd a1 ha1 K hK => ?_) ?_
  ·have e3 := tIX (hd 3 rfl) rfl;clear hd;subst ha1;simp only [putAll, Act.put, pS] at hK |-;simp only [e3] at hK |-;clear e3;refine gwp_none rfl ?_;have k5 : w1.cell? ⟨p, 5, none⟩ = some (.slice ta tn tc) := HD.out w1 hB 5 _ rfl;go_simp;exact hK _ _ rfl (.inl bR)
  refine And.intro (fun w1 vals hB hd a1 ha1 K hK => ?_) ?_
  ·have e4 := tIX (hd 4 rfl) rfl;clear hd;subst ha1;simp only [putAll, Act.put, pS] at hK |-;simp only [e4] at hK |-;clear e4;refine gwp_none rfl ?_;go_simp;refine (R3.out w1 hB).mono ?_;rintro e w4 ⟨rfl, hb4⟩;exact hK _ _ rfl (.inl hb4)
  refine And.intro (fun w1 vals hB hd a1 ha1 K hK => ?_) ?_
  ·clear hd;subst ha1;simp only [putAll, Act.put, pS] at hK |-;refine gwp_none rfl ?_;go_simp;exact hK _ _ rfl (.inl bR)
  refine And.intro (fun w1 vals hB hd a1 ha1 K hK => ?_) ?_
  ·have e6 := tIX (hd 6 rfl) rfl;clear hd;subst ha1;simp only [putAll, Act.put, pS] at hK |-;simp only [e6] at hK |-;clear e6;refine gwp_none rfl ?_;have k5 : w1.cell? ⟨p, 5, none⟩ = some (.slice ta tn tc) := HD.out w1 hB 5 _ rfl;go_simp;exact hK _ _ rfl (.inl bR)
  refine And.intro (fun w1 vals hB hd a1 ha1 K hK => ?_) ?_
  ·have e7 := tIX (hd 7 rfl) rfl;clear hd;subst ha1;simp only [putAll, Act.put, pS] at hK |-;simp only [e7] at hK |-;clear e7;refine gwp_none rfl ?_;go_simp;refine (R4.out w1 hB).mono ?_;rintro e w4 ⟨rfl, hb4⟩;exact hK _ _ rfl (.inl hb4)
  refine And.intro (fun w1 vals hB hd a1 ha1 K hK => ?_) ?_
  ·have e2 := tIX (hd 2 rfl) rfl;have e5 := tIX (hd 5 rfl) rfl;have e8 := tIX (hd 8 rfl) rfl;clear hd;subst ha1;simp only [putAll, Act.put, pS] at hK |-;simp only [e2, e5, e8] at hK |-;clear e2 e5 e8;refine gwp_none rfl ?_;go_simp;exact hK _ _ rfl (.inl bR)
  refine And.intro (fun w1 vals hB hd a1 ha1 K hK => ?_) ?_
  ·have e9 := tIX (hd 9 rfl) rfl;clear hd;refine gwp_none rfl ?_;have hth := hB.keep 3 HTH.out;have hev1 : a1.eval (.tmp 2) = .pointer (some ⟨p + 1, 0, none⟩) := by rw [ha1]; exact (eval_old (by kernel_rfl)).trans rfl
   have hev2 : a1.eval (.tmp 12) = .agg #[.int .i64 a2, .int .i64 a3, .int .i64 a4] := by rw [ha1]; exact (eval_slot (i := 9) (by kernel_rfl) (by kernel_rfl) rfl).trans e9
   clear ha1;obtain ⟨wS, hwS⟩ : ∃ wS, w1.setCells (p + 1) 0 (#[.int .i64 a2, .int .i64 a3, .int .i64 a4] : Array Value).toList = wS := ⟨_, rfl⟩;have hX : BelowX (p + 1) w1 wS := by rw [<- hwS]; exact BelowX.set _ _ _
   have hR : wS.rangeAt (p + 1) 0 [.int .i64 a2, .int .i64 a3, .int .i64 a4] := by rw [<- hwS]; exact World.rangeAt_setCells_same w1 (p + 1) 0 [.int .i64 a2, .int .i64 a3, .int .i64 a4] hth
   have hSz : p + 1 < wS.heap.size := Nat.lt_of_lt_of_le (there_lt hth (by omega)) hX.size;refine wp_store_mid 91 (.tmp 2) (.tmp 12) rfl (p + 1) 0 #[.int .i64 a2, .int .i64 a3, .int .i64 a4] hev1 hev2 hth (by kernel_rfl) (by simp [Value.oneCell']) ?_;rw [hwS];exact hK undef wS ⟨hSz, hR⟩ (.inr ⟨rfl, hX⟩)
  exact trivial
 ·intro w1 vals hB hd;have e9 := tIX (hd 9 (by decide)) rfl;have p10 := toldX_at (hd 10 (by decide)) rfl;simp only [ToldX.holds] at p10;clear hd;simp only [putAll, Act.put, pS];simp only [e9];clear e9;obtain ⟨h0, h1⟩ := p10;have H1 := hI h1;have HBE := hI (HBX.out w1 hB);clear h0 h1;go_wp2;refine bodyPost_ret (v := .agg #[.int .i64 a2, .int .i64 a3, .int .i64 a4]) ?_ rfl ⟨rfl, ?_⟩
  ·exact results_cell1_of rfl _ _ (p + 1) [.int .i64 a2, .int .i64 a3, .int .i64 a4] _ rfl H1.out Tryz.underlying91 rfl (by kernel_rfl)
  ·exact HBE.out
end
section
open Go Go.RowKit
variable {P : Program} {ops : Array Oper} {Q : Exit → Act → World → Prop}
def backW (ops : Array Oper) : Bool := (List.range ops.size).all fun i => match ops[i]? with
 | none => true
 | some o => o.after.all fun e => !Region.binds .any e || decide (e.on < i)
theorem backW_at {i : Nat} {o : Oper} (h : backW ops = true) (ho : ops[i]? = some o) {e : _} (he : e ∈ o.after) (hb : Region.binds .any e = true) : e.on < i := by
 have h1 := List.all_eq_true.1 h i (List.mem_range.2 (Array.getElem?_eq_some_iff.1 ho).1);rw [ho] at h1;have h2 := Array.all_eq_true'.1 h1 e he;rw [hb] at h2;simpa using h2
theorem all_listedW {l : Array Bool} (hb : backW ops = true) (hl : l.size = ops.size) (h0 : Region.ready .any ops l = []) : ∀ i, i < ops.size -> l.getD i false = true := by
 intro i;induction i using Nat.strongRecOn with
 | _ i ih =>
  intro hi
  cases hh : l.getD i false with
  | true => rfl
  | false =>
   have hmem : i ∈ Region.ready .any ops l := by
    refine mem_ready.2 ⟨getD_false_true hh (by omega), ops[i], Array.getElem?_eq_getElem hi, fun e he hbe => ?_⟩;have h2 := backW_at hb (Array.getElem?_eq_getElem hi) he hbe;exact ih e.on h2 (by omega)
   rw [h0] at hmem
   cases hmem
theorem wp_region_genW {id : Nat} {a0 : Act} {w0 : World} (hm : P.follows .mixedOrders = true) (C : World -> Prop) (V : Nat -> Value -> World -> Prop) (hb : (backW ops && (distB ops && dstB ops a0.tmps.size)) = true) (h0 : C w0.drew)
  (hstep : ∀ (i : Nat) (o : Oper) (w : World) (vals : Nat -> Value), ops[i]? = some o -> C w -> (∀ j, (o.after.any fun e => Region.binds .any e && e.on == j) = true -> V j (vals j) w) ->
   wpOp P ops Q i (fun a' w' => ∃ v, a' = (putAll ops.toList 0 vals a0).put o.dst v /\ V i (match o.dst with | none => undef | some _ => v) w' /\ C w' /\ ∀ j u, j ≠ i -> V j u w -> V j u w') (putAll ops.toList 0 vals a0) w)
  (hQ : ∀ (w : World) (vals : Nat -> Value), C w -> (∀ j, j < ops.size -> V j (vals j) w) -> Q .normal (putAll ops.toList 0 vals a0) w) : (Code.region id ops true).wp P Q a0 w0 := by
 rw [Bool.and_eq_true, Bool.and_eq_true] at hb;obtain ⟨hb1, hb2, hb3⟩ := hb
 have hrep : ∀ i, (Array.replicate ops.size false).getD i false = false := fun i => by
  simp only [Array.getD];split <;> simp
 have hval : ∀ (l : Array Bool) (a : Act) (w : World), EInv ops a0 C V l a w -> ∀ j, j < ops.size -> l.getD j false = true -> V j (valsOf ops a j) w := by
  intro l a w h j hj hl;have := h.new j ops[j] (Array.getElem?_eq_getElem hj) hl;unfold valsOf;rw [Array.getElem?_eq_getElem hj];exact this
 refine wp_region_inv hm (EInv ops a0 C V) ⟨by simp, h0, rfl, rfl, fun _ _ => rfl, fun i o _ hl => by rw [hrep] at hl; cases hl⟩ (fun l a w h hr => ?_) ?_
 ·have hall := all_listedW hb1 h.len hr;have := hQ w (valsOf ops a) h.cls (fun j hj => hval l a w h j hj (hall j hj));rw [putAll_of h.size h.defers h.old] at this;exact this
 ·intro l a w i h hi;obtain ⟨hun, o, ho, hr⟩ := mem_ready.1 hi;have hs := hstep i o w (valsOf ops a) ho h.cls (fun j hj => ?_)
  ·rw [putAll_of h.size h.defers h.old] at hs;refine wpOp_mono ?_ hs;rintro a' w' ⟨v, rfl, h1, h2, h3⟩;exact einv_step hb2 hb3 h ho h2 h1 h3
  ·obtain ⟨e, he, h2⟩ := Array.any_eq_true'.1 hj;rw [Bool.and_eq_true, beq_iff_eq] at h2;have h3 := hr e he h2.1
   have hj2 : e.on < ops.size := by
    have h5 := backW_at hb1 ho he h2.1;have := (Array.getElem?_eq_some_iff.1 ho).1;omega
   have := hval l a w h e.on hj2 h3;rw [<- h2.2];exact this
theorem wp_region_toldW {id q : Nat} (st : Nat) {a0 : Act} {w0 : World} {l : List Oper} (Vs : List (ToldX q)) (hm : P.follows .mixedOrders = true) (hb : ((backW l.toArray && (distB l.toArray && dstB l.toArray a0.tmps.size)) && guardB l) = true) (hput : putB st Vs 0 = true)
  (hstep : StepsX P Q q st l a0 w0 Vs 0 l)
  (hQ : ∀ (w : World) (vals : Nat -> Value), BelowX q w0 w -> (∀ j, j < l.length -> toldAtX Vs j (vals j) w) -> Q .normal (putAll l 0 vals a0) w) : (Code.region id l.toArray true).wp P Q a0 w0 := by
 rw [Bool.and_eq_true] at hb;have hb' := hb.1;rw [Bool.and_eq_true, Bool.and_eq_true] at hb';refine wp_region_genW (ops := l.toArray) hm (fun w => BelowX q w0 w) (toldAtX Vs) hb.1 (BelowX.of bR.drew) (fun i o w vals ho hC hd => ?_) (fun w vals hC h => hQ w vals hC fun j hj => h j (by simpa using hj));have hol : l[i]? = some o := by simpa using ho
 refine wpOp_of_gwp hb'.2.1 hb'.2.2 hol hb.2 ?_;refine stepsX_get hstep hol w vals hC (fun j hj => hd j (by rw [<- Array.any_toList]; exact hj)) _ fun v w' h1 h2 => ⟨v, rfl, by rw [Nat.zero_add] at h1; exact h1, ?_, ?_⟩
 ·rcases h2 with h2 | ⟨_, h2⟩
  ·exact hC.trans (BelowX.of h2)
  ·exact hC.trans h2
 ·intro j u hj hu;rcases h2 with h2 | ⟨he, h2⟩
  ·exact toldAtX_kept Vs j u w w' hu h2
  ·exact toldAtX_keptX Vs j (fun t ht => putB_at hput ht (by omega)) u w w' hu h2
end
end Go.Proofs.YthcabnfcgjnlnaaGreatDoor
