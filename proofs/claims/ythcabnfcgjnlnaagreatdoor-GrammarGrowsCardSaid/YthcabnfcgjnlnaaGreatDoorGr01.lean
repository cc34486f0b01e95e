import Derived.Test.YthcabnfcgjnlnaaGreatDoorL07
set_option linter.unusedVariables false
set_option linter.unusedSimpArgs false
namespace Go.Proofs.YthcabnfcgjnlnaaGreatDoor
section
open Go Go.RowKit
section
variable {P : Program} {Q : Exit → Act → World → Prop}
end
section
variable {α : Type} {f : α → List Value} {s : Nat}
theorem flat_take (hf : ∀ x, (f x).length = s) : ∀ (l : List α) (k : Nat), (l.take k).flatMap f = (l.flatMap f).take (k * s)
 | [], k => by simp
 | x :: l, 0 => by simp
 | x :: l, k + 1 => by
  rw [List.take_succ_cons, List.flatMap_cons, List.flatMap_cons, flat_take hf l k, List.take_append, hf, show (k + 1) * s - s = k * s by rw [Nat.add_mul]; omega, show (f x).take ((k + 1) * s) = f x from List.take_of_length_le (by rw [hf, Nat.add_mul]; omega)]
theorem Reads.takeR {w : World} {B n k : Nat} {A : Option Addr} {l : List α} (hf : ∀ x, (f x).length = s) (h : Reads w B s A n (l.flatMap f)) (hk : k <= n) : Reads w B s A k ((l.take k).flatMap f) := by
 rw [flat_take hf]
 have hks : k * s <= n * s := Nat.mul_le_mul_right s hk
 refine ⟨by rw [List.length_take, h.1]; omega, fun h0 => ?_⟩
 obtain ⟨ad, e, hb, hc⟩ := h.2 (by omega)
 refine ⟨ad, e, hb, fun j u hu => ?_⟩
 rw [List.getElem?_take] at hu
 split at hu
 ·exact hc j u hu
 ·cases hu
end
end
section
theorem numsF_pre : ∀ (rs out : List Rf), ∃ s, numsF out rs = out ++ s
 | [], out => ⟨[], by simp [numsF]⟩
 | r :: rs, out => by
  obtain ⟨s, hs⟩ := numsF_pre rs (if r ∈ out then out else out ++ [r])
  unfold numsF
  rw [hs]
  by_cases h : r ∈ out
  ·rw [if_pos h]; exact ⟨s, rfl⟩
  ·rw [if_neg h]; exact ⟨r :: s, by simp⟩
theorem numsF_mem : ∀ (rs out : List Rf) (r : Rf), r ∈ numsF out rs ↔ r ∈ out ∨ r ∈ rs
 | [], out, r => by simp [numsF]
 | a :: rs, out, r => by
  unfold numsF
  rw [numsF_mem rs, List.mem_cons]
  by_cases h : a ∈ out
  ·rw [if_pos h]
   constructor
   ·rintro (h1 | h1); exact .inl h1; exact .inr (.inr h1)
   ·rintro (h1 | h1 | h1); exact .inl h1; exact .inl (h1 ▸ h); exact .inr h1
  ·rw [if_neg h, List.mem_append, List.mem_singleton]
   constructor
   ·rintro ((h1 | h1) | h1); exact .inl h1; exact .inr (.inl h1); exact .inr (.inr h1)
   ·rintro (h1 | h1 | h1); exact .inl (.inl h1); exact .inl (.inr h1); exact .inr h1
end
section
open Go.RowKit Ru Lay Srt Col
theorem nums_take {L : List Pt} {k : Nat} {r : Rf} (h : r ∈ allR (L.take k)) : numR (numsF [] (allR (L.take k))) r = numR (numsF [] (allR L)) r := by
 have e : allR L = allR (L.take k) ++ allR (L.drop k) := by
  unfold allR
  rw [<- List.flatMap_append, List.take_append_drop]
 rw [e, numsF_app]
 obtain ⟨s, hs⟩ := numsF_pre (allR (L.drop k)) (numsF [] (allR (L.take k)))
 rw [hs, numR_pre ((numsF_mem _ _ _).2 (.inr h))]
theorem refL_num {out out' : List Rf} {D : List Dc} {WD : Int} {r : Rf} (h : numR out r = numR out' r) : refL out D WD r = refL out' D WD r := by
 unfold refL refB
 rw [h]
theorem flat_congr {α β : Type} {f g : α -> List β} : ∀ {l : List α}, (∀ x ∈ l, f x = g x) -> l.flatMap f = l.flatMap g
 | [], _ => rfl
 | x :: t, h => by rw [List.flatMap_cons, List.flatMap_cons, h x List.mem_cons_self, flat_congr fun y hy => h y (List.mem_cons_of_mem _ hy)]
theorem linesM_take {out out' : List Rf} {D : List Dc} {WD : Int} {L : List Pt} {k : Nat} (h : ∀ r ∈ allR (L.take k), numR out r = numR out' r) : ∀ i, i <= k -> linesM out D WD (L.take k) i = linesM out' D WD L i
 | 0, _ => rfl
 | i + 1, hi => by
  show linesM out D WD (L.take k) i ++ (match (L.take k)[i]? with | none => [] | some p => ptL out D WD i p) = linesM out' D WD L i ++ (match L[i]? with | none => [] | some p => ptL out' D WD i p)
  rw [linesM_take h i (by omega)]
  have e : (L.take k)[i]? = L[i]? := by rw [List.getElem?_take_of_lt (by omega)]
  rw [e]
  cases hx : L[i]? with
  | none => rfl
  | some p =>
   have hp : p ∈ L.take k := List.mem_of_getElem? (e.trans hx)
   have h1 : p.refs.flatMap (refL out D WD) = p.refs.flatMap (refL out' D WD) := flat_congr fun r hr => refL_num (h r (List.mem_flatMap.2 ⟨p, hp, hr⟩))
   show _ ++ (headB i p :: (txtL p ++ p.refs.flatMap (refL out D WD))) = _ ++ (headB i p :: (txtL p ++ p.refs.flatMap (refL out' D WD)))
   rw [h1]
theorem linesM_more {out : List Rf} {D : List Dc} {WD : Int} {L : List Pt} (i : Nat) : ∀ j, ∃ s, linesM out D WD L (i + j) = linesM out D WD L i ++ s
 | 0 => ⟨[], by rw [List.append_nil]; rfl⟩
 | j + 1 => by
  obtain ⟨s, hs⟩ := linesM_more i j (out := out) (D := D) (WD := WD) (L := L)
  exact ⟨s ++ (match L[i + j]? with | none => [] | some p => ptL out D WD (i + j) p), by
   show linesM out D WD L (i + j) ++ (match L[i + j]? with | none => [] | some p => ptL out D WD (i + j) p) = _
   rw [hs, List.append_assoc]⟩
theorem linesG_take (D : List Dc) (L : List Pt) (WD : Int) {k : Nat} (hk : k <= L.length) : ∃ s, linesG D L WD = linesG D (L.take k) WD ++ s := by
 have h1 : linesG D (L.take k) WD = linesM (numsF [] (allR L)) D WD L k := by
  unfold linesG
  rw [List.length_take, Nat.min_eq_left hk]
  exact linesM_take (fun r hr => nums_take hr) k (Nat.le_refl _)
 obtain ⟨s, hs⟩ := linesM_more k (L.length - k) (out := numsF [] (allR L)) (D := D) (WD := WD) (L := L)
 rw [Nat.add_sub_cancel' hk] at hs
 exact ⟨s, by rw [h1]; exact hs⟩
end
section
open Go.RowKit Ru Lay
attribute [local go_sem ↓] Go.wp_at_zero Go.wp_at_succ
theorem strs_same (A B : Option Addr) (n m c d : Nat) (xs : List ByteArray) (w : World) (ha : SR w w.heap.size A n xs) (hb : SR w w.heap.size B m xs) (hn : n <= 9223372036854775807) (hm : m <= 9223372036854775807) :
  Calls Tryz.prog 21 #[.slice A n c, .slice B m d] w fun e w' => e = .returned (.bool true) /\ Below w.heap.size w w' :=
 (same_strs A B n m c d xs xs w ha hb hn hm).mono fun e w' ⟨h1, k, h2⟩ => ⟨by rw [h1, decide_eq_true rfl], by rw [h2]; exact below_drewN bR k⟩
def SsC (L : List ByteArray) (v : Value) (W : World) : Prop := ∃ A c, v = .slice A L.length c /\ L.length <= c /\ c <= 9223372036854775807 /\ SR W W.heap.size A L.length L
theorem SsC.on {L : List ByteArray} {v : Value} {W W' : World} (h : SsC L v W) (hb : Below W.heap.size W W') : SsC L v W' := by
 obtain ⟨A, c, e, h1, h2, hr⟩ := h
 exact ⟨A, c, e, h1, h2, hr.on hb⟩
theorem SsC.of {L : List ByteArray} {v : Value} {W : World} {b : Nat} (h : OwnS W b v L) : SsC L v W := by
 obtain ⟨A, c, e, h1, h2, h3⟩ := OwnS.form h
 exact ⟨A, c, e, h1, h2, h3⟩
theorem SsC.first {W : World} {A : Option Addr} {n k : Nat} {l xs s : List ByteArray} (h : SR W W.heap.size A n l) (hk : k <= n) (e : l = xs ++ s) (hl : xs.length = k) : SR W W.heap.size A k xs := by
 have h1 : SR W W.heap.size A k (l.take k) := by
  show Reads W W.heap.size 1 A k ((l.take k).map Value.string)
  rw [List.map_take]
  exact Reads.take h hk
 rw [e, <- hl, List.take_left] at h1
 rw [hl] at h1
 exact h1
theorem PtsR.take {w : World} {B n k : Nat} {A : Option Addr} {l : List Pt} (h : PtsR w B A n l) (hk : k <= n) : PtsR w B A k (l.take k) :=
 ⟨⟨Reads.takeR encP_len h.1.1 hk, by rw [List.length_take, h.1.2, Nat.min_eq_left hk]⟩, fun p hp => h.2 p (List.mem_of_mem_take hp)⟩
theorem light_all {x : Bk} {w : World} (hL : LightB x) (h : BkR w x) : (allR x.L).length <= 1000000 := by
 have h1 := allR_le (k := 20) fun p hp => by have := (hL.few p hp).2.2; rw [(h.pts.2 p hp).refs.len]; exact this
 have h2 : x.L.length * 20 <= 45 * 20 := Nat.mul_le_mul_right 20 (by have := hL.pn; have := h.pts.len; omega)
 omega
theorem wf_u8v {x : Int} (h : (Lit.int .u8 x).wf = true) : 0 <= x /\ x <= 255 := by
 unfold Lit.wf at h
 rw [Bool.and_eq_true, decide_eq_true_eq, decide_eq_true_eq] at h
 have h1 : IntKind.u8.min = 0 := by decide
 have h2 : IntKind.u8.max = 255 := by decide
 rw [h1, h2] at h
 exact h
theorem allR_take {l : List Pt} {k : Nat} : (allR (l.take k)).length <= (allR l).length := allR_len
set_option maxHeartbeats 4000000 in
set_option maxRecDepth 100000 in
theorem grammarGrows_any (x : Bk) (WD KK : Int) (w : World) (h : BkR w x) (hWD : WD <= 9223372036854775807) (hKK : (Lit.int .u8 KK).wf = true) (htb : Tabs w) (hpw : Pow w) :
  Calls Tryz.prog 9 #[bookV x, .int .i64 WD, .int .u8 KK] w fun e w' => e = .returned (.bool true) /\ Below w.heap.size w w' := by
 have HAW := hI fun (W : World) (hW : Below w.heap.size w W) => awake55_any W (htb.on hW) (hpw.on hW)
 have HLT := hI fun (W : World) (hW : Below w.heap.size w W) => light55_any x W (h.on hW)
 obtain ⟨q, hq, hqn⟩ : ∃ q : Nat, KK.tmod ((x.pn : Int) + 1) = (q : Int) /\ q <= x.pn := by
  have h0 := wf_u8v hKK
  refine ⟨(KK.tmod ((x.pn : Int) + 1)).toNat, ?_, ?_⟩
  ·have := Int.tmod_nonneg ((x.pn : Int) + 1) h0.1
   omega
  ·have := Int.tmod_lt_of_pos KK (show 0 < (x.pn : Int) + 1 by omega)
   have := Int.tmod_nonneg ((x.pn : Int) + 1) h0.1
   omega
 have H1 := hI fun (hL : LightB x) (W : World) (hW : Below w.heap.size w W) => linesG_any x.da x.dn x.dc x.D x.pa q x.pc (x.L.take q) WD W (h.docs.on hW) (by have := hL.dn; omega) ((h.pts.take hqn).on hW) (by have := hL.pn; omega) hL.ok (fun p hp => hL.lim h p (List.mem_of_mem_take hp)) hWD (htb.on hW) (hpw.on hW)
 have H2 := hI fun (hL : LightB x) (W : World) (hW : Below w.heap.size w W) => linesG_any x.da x.dn x.dc x.D x.pa x.pn x.pc x.L WD W (h.docs.on hW) (by have := hL.dn; omega) (h.pts.on hW) (by have := hL.pn; omega) hL.ok (hL.lim h) hWD (htb.on hW) (hpw.on hW)
 have H3 := hI fun (hL : LightB x) (r1 r2 : Int) (hr : RfOk (r1, r2)) (W : World) (hW : Below w.heap.size w W) => gnumber_any x.pa q x.pc (x.L.take q) r1 r2 W ((h.pts.take hqn).on hW) hr (by have := hL.pn; omega) (Nat.le_trans allR_take (light_all hL h))
 have H4 := hI fun (hL : LightB x) (r1 r2 : Int) (hr : RfOk (r1, r2)) (W : World) (hW : Below w.heap.size w W) => gnumber_any x.pa x.pn x.pc x.L r1 r2 W (h.pts.on hW) hr (by have := hL.pn; omega) (light_all hL h)
 have HPT := hI (h.pts.take hqn)
 have hcp := h.cap
 have hpz := h.sizes.2.2
 have hKB := wf_u8v hKK
 obtain ⟨s, hs⟩ := linesG_take x.D x.L WD (k := q) (by have := h.pts.len; omega)
 have HTK := hI hs
 have HLB : Hid (LightB x -> x.pn <= 45) := fun hL => hL.pn
 clear h htb hpw hs hKK
 unfold bookV at HLT
 unfold bookV
 obtain ⟨da, dn, dc, D, ea, en, ec, E, pa, pn, pc, L⟩ := x
 simp only at HLT H1 H2 H3 H4 HPT hcp hpz HTK hq hqn HLB |-
 obtain ⟨W0, hW0⟩ : ∃ W0, w.alloc (.cells #[.slice da dn dc, .slice ea en ec, .slice pa pn pc] 51) = W0 := ⟨_, rfl⟩
 have HB : Hid (Below w.heap.size w W0) := by rw [<- hW0]; exact (Below.refl _ w).alloc (Nat.le_refl _) _
 have hz0 : W0.heap.size = w.heap.size + 1 := by rw [<- hW0]; simp
 have HK : Hid (∀ W, Below W0.heap.size W0 W -> ∀ j v, [.slice da dn dc, .slice ea en ec, .slice pa pn pc][j]? = some v -> W.cell? ⟨w.heap.size, j, none⟩ = some v) := fun W hW j v hv => by
  rw [hW.cell (p := ⟨w.heap.size, j, none⟩) (by show w.heap.size < _; omega), <- hW0, World.cell?_alloc_new, <- hv, <- List.getElem?_toArray]
 have k0 : W0.cell? ⟨w.heap.size, 0, none⟩ = some (.slice da dn dc) := HK.out W0 bR 0 _ rfl
 have k1 : W0.cell? ⟨w.heap.size, 1, none⟩ = some (.slice ea en ec) := HK.out W0 bR 1 _ rfl
 have k2 : W0.cell? ⟨w.heap.size, 2, none⟩ = some (.slice pa pn pc) := HK.out W0 bR 2 _ rfl
 go_enter Tryz.func9, Tryz.ntmps9
 go_upto_region 1 with fail
 (try rw [hW0])
 clear hW0
 go_wp2_with fail
 refine (HLT.out W0 HB.out).mono ?_
 rintro e w3 ⟨b, rfl, hlf, hb3⟩
 have HLF := hI hlf
 have HB3 := hI hb3
 clear hb3 hlf k0 k1 k2 HLT
 have HBW : Hid (∀ W, Below w3.heap.size w3 W -> Below w.heap.size w W) := fun W hW => (HB.out.trans (HB3.out.mono HB.out.size)).trans (hW.mono (Nat.le_trans HB.out.size HB3.out.size))
 cases b with
 | false =>
  go_wp2_with fail
  refine (HAW.out w3 (HB.out.trans (HB3.out.mono HB.out.size))).mono ?_
  rintro e w5 ⟨rfl, hb5⟩
  have HB5 := hI (HBW.out _ hb5)
  clear hb5
  go_wp2
  go_ret
  exact ⟨rfl, HB5.out⟩
 | true =>
  have HL := hI (HLF.out rfl)
  have hpn := HLB.out HL.out
  have HP := hI fun (W : World) (hW : Below w3.heap.size w3 W) => H1.out HL.out W (HBW.out W hW)
  have HR := hI fun (W : World) (hW : Below w3.heap.size w3 W) => H2.out HL.out W (HBW.out W hW)
  have HN1 := hI fun (r1 r2 : Int) (hr : RfOk (r1, r2)) (W : World) (hW : Below w3.heap.size w3 W) => H3.out HL.out r1 r2 hr W (HBW.out W hW)
  have HN2 := hI fun (r1 r2 : Int) (hr : RfOk (r1, r2)) (W : World) (hW : Below w3.heap.size w3 W) => H4.out HL.out r1 r2 hr W (HBW.out W hW)
  have HA := hI fun (W : World) (hW : Below w3.heap.size w3 W) => HAW.out W (HBW.out W hW)
  have HK3 : Hid (∀ W, Below w3.heap.size w3 W -> ∀ j v, [.slice da dn dc, .slice ea en ec, .slice pa pn pc][j]? = some v -> W.cell? ⟨w.heap.size, j, none⟩ = some v) := fun W hW => HK.out W (HB3.out.trans (hW.mono HB3.out.size))
  (try simp only at HP HR)
  clear HL HLF H1 H2 H3 H4 HK HAW HLB
  obtain ⟨LA, hLA⟩ : ∃ x, linesG D (L.take q) WD = x := ⟨_, rfl⟩
  obtain ⟨LB, hLB⟩ : ∃ x, linesG D L WD = x := ⟨_, rfl⟩
  rw [hLA] at HP HTK
  rw [hLB] at HR HTK
  clear hLA hLB
  have hw1 : IntKind.i64.wrap KK = KK := IntWalk.i64_in _ (by omega)
  have hw2 : IntKind.i64.wrap ((pn : Int) + 1) = (pn : Int) + 1 := IntWalk.i64_in _ (by omega)
  have hw3 : IntKind.i64.wrap (q : Int) = (q : Int) := IntWalk.i64_in _ (by omega)
  have hqp : q <= pc := by omega
  have hqpz : (q : Int) <= (pc : Int) := by omega
  have hq0 : (0 : Int) <= (q : Int) := by omega
  have hpnz : ((pn : Int) + 1 == 0) = false := beq_eq_false_iff_ne.2 (by omega)
  have hpne : ¬ ((pn : Int) + 1 = 0) := by omega
  go_upto_region 3 with fail
  refine wp_region_told [Told.is (.pointer (some ⟨w.heap.size, 2, none⟩)), Told.is (.slice pa pn pc), Told.is (.int .u8 KK), Told.is (.int .i64 KK), Told.is (.pointer (some ⟨w.heap.size, 2, none⟩)), Told.is (.slice pa pn pc), Told.is (.int .i64 (pn : Int)), Told.is (.int .i64 ((pn : Int) + 1)), Told.is (.int .i64 (q : Int)), Told.is (.slice pa q pc), Told.is (.slice pa q pc)] (by kernel_rfl) (by kernel_rfl) ?_ ?_
  ·refine And.intro (fun w1 vals hB hd K hK => ?_) ?_
   ·clear hd
    simp only [putAll, Act.put, pS] at hK |-
    refine gwp_none rfl ?_
    go_simp
    exact hK _ _ rfl bR
   refine And.intro (fun w1 vals hB hd K hK => ?_) ?_
   ·have e0 := tI (hd 0 rfl) rfl
    clear hd
    simp only [putAll, Act.put, pS] at hK |-
    simp only [e0] at hK |-
    clear e0
    refine gwp_none rfl ?_
    have c2 := HK3.out w1 hB 2 _ rfl
    go_simp
    exact hK _ _ rfl bR
   refine And.intro (fun w1 vals hB hd K hK => ?_) ?_
   ·clear hd
    simp only [putAll, Act.put, pS] at hK |-
    refine gwp_none rfl ?_
    go_simp
    exact hK _ _ rfl bR
   refine And.intro (fun w1 vals hB hd K hK => ?_) ?_
   ·have e2 := tI (hd 2 rfl) rfl
    clear hd
    simp only [putAll, Act.put, pS] at hK |-
    simp only [e2] at hK |-
    clear e2
    refine gwp_none rfl ?_
    go_simp
    exact hK _ _ rfl bR
   refine And.intro (fun w1 vals hB hd K hK => ?_) ?_
   ·clear hd
    simp only [putAll, Act.put, pS] at hK |-
    refine gwp_none rfl ?_
    go_simp
    exact hK _ _ rfl bR
   refine And.intro (fun w1 vals hB hd K hK => ?_) ?_
   ·have e4 := tI (hd 4 rfl) rfl
    clear hd
    simp only [putAll, Act.put, pS] at hK |-
    simp only [e4] at hK |-
    clear e4
    refine gwp_none rfl ?_
    have c2 := HK3.out w1 hB 2 _ rfl
    go_simp
    exact hK _ _ rfl bR
   refine And.intro (fun w1 vals hB hd K hK => ?_) ?_
   ·have e5 := tI (hd 5 rfl) rfl
    clear hd
    simp only [putAll, Act.put, pS] at hK |-
    simp only [e5] at hK |-
    clear e5
    refine gwp_none rfl ?_
    go_simp
    exact hK _ _ rfl bR
   refine And.intro (fun w1 vals hB hd K hK => ?_) ?_
   ·have e6 := tI (hd 6 rfl) rfl
    clear hd
    simp only [putAll, Act.put, pS] at hK |-
    simp only [e6] at hK |-
    clear e6
    refine gwp_none rfl ?_
    go_simp
    exact hK _ _ rfl bR
   refine And.intro (fun w1 vals hB hd K hK => ?_) ?_
   ·have e3 := tI (hd 3 rfl) rfl
    have e7 := tI (hd 7 rfl) rfl
    clear hd
    simp only [putAll, Act.put, pS] at hK |-
    simp only [e3, e7] at hK |-
    clear e3 e7
    refine gwp_none rfl ?_
    go_simp
    exact hK _ _ rfl bR
   refine And.intro (fun w1 vals hB hd K hK => ?_) ?_
   ·have e1 := tI (hd 1 rfl) rfl
    have e8 := tI (hd 8 rfl) rfl
    clear hd
    simp only [putAll, Act.put, pS] at hK |-
    simp only [e1, e8] at hK |-
    clear e1 e8
    refine gwp_none rfl ?_
    go_simp
    exact hK _ _ rfl bR
   refine And.intro (fun w1 vals hB hd K hK => ?_) ?_
   ·have e9 := tI (hd 9 rfl) rfl
    clear hd
    simp only [putAll, Act.put, pS] at hK |-
    simp only [e9] at hK |-
    clear e9
    refine gwp_none rfl ?_
    go_simp
    exact hK _ _ rfl bR
   exact trivial
  ·intro w1 vals hB hd
   have e10 := tI (hd 10 (by decide)) rfl
   clear hd
   simp only [putAll, Act.put, pS]
   simp only [e10]
   clear e10
   have HB3' := hI hB
   clear hB hw1 hw2 hw3 hpnz hpne hKB hq
   go_upto_region 4 with fail
   have HBX : Hid (∀ W, Below w1.heap.size w1 W -> Below w3.heap.size w3 W) := fun W hW => HB3'.out.trans (hW.mono HB3'.out.size)
   obtain ⟨w5, hw5⟩ : ∃ w5, w1 = w5 := ⟨_, rfl⟩
   rw [hw5] at HB3' HBX |-
   clear hw5
   obtain ⟨HK5, hK5⟩ : ∃ z : Hid (∀ W, Below w5.heap.size w5 W -> ∀ j v, [.slice da dn dc, .slice ea en ec, .slice pa pn pc][j]? = some v -> W.cell? ⟨w.heap.size, j, none⟩ = some v), z = z := ⟨fun W hW => HK3.out W (HBX.out W hW), rfl⟩
   clear hK5
   refine wp_region_told [Told.is (.pointer (some ⟨w.heap.size, 0, none⟩)), Told.is (.slice da dn dc), Told.is (.slice pa q pc), Told.is (.int .i64 WD), Told.such (fun v W => SsC (LA) v W) (fun v W W' h hb => h.on hb), Told.is (.pointer (some ⟨w.heap.size, 0, none⟩)), Told.is (.slice da dn dc), Told.is (.pointer (some ⟨w.heap.size, 2, none⟩)), Told.is (.slice pa pn pc), Told.is (.int .i64 WD), Told.such (fun v W => SsC (LB) v W) (fun v W W' h hb => h.on hb), Told.such (fun v W => SsC (LA) v W) (fun v W W' h hb => h.on hb), Told.such (fun v W => SsC (LB) v W) (fun v W W' h hb => h.on hb)] (by kernel_rfl) (by kernel_rfl) ?_ ?_
   ·refine And.intro (fun w1 vals hB hd K hK => ?_) ?_
    ·clear hd
     simp only [putAll, Act.put, pS] at hK |-
     refine gwp_none rfl ?_
     go_simp
     exact hK _ _ rfl bR
    refine And.intro (fun w1 vals hB hd K hK => ?_) ?_
    ·have e0 := tI (hd 0 rfl) rfl
     clear hd
     simp only [putAll, Act.put, pS] at hK |-
     simp only [e0] at hK |-
     clear e0
     refine gwp_none rfl ?_
     have c0 := HK5.out w1 hB 0 _ rfl
     go_simp
     exact hK _ _ rfl bR
    refine And.intro (fun w1 vals hB hd K hK => ?_) ?_
    ·clear hd
     simp only [putAll, Act.put, pS] at hK |-
     refine gwp_none rfl ?_
     go_simp
     exact hK _ _ rfl bR
    refine And.intro (fun w1 vals hB hd K hK => ?_) ?_
    ·clear hd
     simp only [putAll, Act.put, pS] at hK |-
     refine gwp_none rfl ?_
     go_simp
     exact hK _ _ rfl bR
    refine And.intro (fun w1 vals hB hd K hK => ?_) ?_
    ·have e1 := tI (hd 1 rfl) rfl
     have e2 := tI (hd 2 rfl) rfl
     have e3 := tI (hd 3 rfl) rfl
     clear hd
     simp only [putAll, Act.put, pS] at hK |-
     simp only [e1, e2, e3] at hK |-
     clear e1 e2 e3
     refine gwp_none rfl ?_
     go_simp
     refine (HP.out w1 (HBX.out w1 hB)).mono ?_
     rintro e w4 ⟨v, rfl, hO, hb4⟩
     exact hK _ _ (SsC.of hO) hb4
    refine And.intro (fun w1 vals hB hd K hK => ?_) ?_
    ·clear hd
     simp only [putAll, Act.put, pS] at hK |-
     refine gwp_none rfl ?_
     go_simp
     exact hK _ _ rfl bR
    refine And.intro (fun w1 vals hB hd K hK => ?_) ?_
    ·have e5 := tI (hd 5 rfl) rfl
     clear hd
     simp only [putAll, Act.put, pS] at hK |-
     simp only [e5] at hK |-
     clear e5
     refine gwp_none rfl ?_
     have c0 := HK5.out w1 hB 0 _ rfl
     go_simp
     exact hK _ _ rfl bR
    refine And.intro (fun w1 vals hB hd K hK => ?_) ?_
    ·clear hd
     simp only [putAll, Act.put, pS] at hK |-
     refine gwp_none rfl ?_
     go_simp
     exact hK _ _ rfl bR
    refine And.intro (fun w1 vals hB hd K hK => ?_) ?_
    ·have e7 := tI (hd 7 rfl) rfl
     clear hd
     simp only [putAll, Act.put, pS] at hK |-
     simp only [e7] at hK |-
     clear e7
     refine gwp_none rfl ?_
     have c2 := HK5.out w1 hB 2 _ rfl
     go_simp
     exact hK _ _ rfl bR
    refine And.intro (fun w1 vals hB hd K hK => ?_) ?_
    ·clear hd
     simp only [putAll, Act.put, pS] at hK |-
     refine gwp_none rfl ?_
     go_simp
     exact hK _ _ rfl bR
    refine And.intro (fun w1 vals hB hd K hK => ?_) ?_
    ·have e6 := tI (hd 6 rfl) rfl
     have e8 := tI (hd 8 rfl) rfl
     have e9 := tI (hd 9 rfl) rfl
     clear hd
     simp only [putAll, Act.put, pS] at hK |-
     simp only [e6, e8, e9] at hK |-
     clear e6 e8 e9
     refine gwp_none rfl ?_
     go_simp
     refine (HR.out w1 (HBX.out w1 hB)).mono ?_
     rintro e w4 ⟨v, rfl, hO, hb4⟩
     exact hK _ _ (SsC.of hO) hb4
    refine And.intro (fun w1 vals hB hd K hK => ?_) ?_
    ·have p4 := told_at (hd 4 rfl) rfl
     simp only [Told.holds] at p4
     clear hd
     generalize hx4 : vals 4 = x4
     rw [hx4] at p4
     simp only [putAll, Act.put, pS] at hK |-
     simp only [hx4] at hK |-
     clear hx4
     refine gwp_none rfl ?_
     go_simp
     exact hK _ _ p4 bR
    refine And.intro (fun w1 vals hB hd K hK => ?_) ?_
    ·have p10 := told_at (hd 10 rfl) rfl
     simp only [Told.holds] at p10
     clear hd
     generalize hx10 : vals 10 = x10
     rw [hx10] at p10
     simp only [putAll, Act.put, pS] at hK |-
     simp only [hx10] at hK |-
     clear hx10
     refine gwp_none rfl ?_
     go_simp
     exact hK _ _ p10 bR
    exact trivial
   ·intro w1 vals hB hd
    have p11 := told_at (hd 11 (by decide)) rfl
    simp only [Told.holds] at p11
    have p12 := told_at (hd 12 (by decide)) rfl
    simp only [Told.holds] at p12
    obtain ⟨x11, hx11⟩ : ∃ x, vals 11 = x := ⟨_, rfl⟩
    rw [hx11] at p11
    obtain ⟨x12, hx12⟩ : ∃ x, vals 12 = x := ⟨_, rfl⟩
    rw [hx12] at p12
    clear hd
    simp only [putAll, Act.put, pS]
    simp only [hx11, hx12]
    clear hx11 hx12
    obtain ⟨A8, c8, rfl, h8c, h8m, h8r⟩ := p11
    obtain ⟨A9, c9, rfl, h9c, h9m, h9r⟩ := p12
    have HB6 : Hid (Below w3.heap.size w3 w1) := HBX.out w1 hB
    have hle : LA.length <= LB.length := by rw [HTK.out, List.length_append]; omega
    have HSM := hI fun (W : World) (hW : Below w1.heap.size w1 W) => strs_same A8 A9 LA.length LA.length c8 c9 LA W (h8r.on hW) ((SsC.first h9r hle HTK.out rfl).on hW) (by omega) (by omega)
    obtain ⟨la, hla⟩ : ∃ x, LA.length = x := ⟨_, rfl⟩
    obtain ⟨lb, hlb⟩ : ∃ x, LB.length = x := ⟨_, rfl⟩
    rw [hla] at HSM hle h8c
    rw [hlb] at hle h9c
    (try rw [hla])
    (try rw [hlb])
    clear h8r h9r hB hla hlb HP HR HTK
    obtain ⟨w6, hw6⟩ : ∃ w6, w1 = w6 := ⟨_, rfl⟩
    rw [hw6] at HB6 HSM |-
    clear hw6
    have hgt : decide ((lb : Int) < (la : Int)) = false := decide_eq_false (by omega)
    have hgt2 : decide (lb < la) = false := decide_eq_false (by omega)
    have hgz : ¬ (lb : Int) < (la : Int) := by omega
    have hac : la <= c9 := by omega
    have hacz : (la : Int) <= (c9 : Int) := by omega
    have ha0 : (0 : Int) <= (la : Int) := by omega
    go_wp2_with fail
    refine (HSM.out w6 bR).mono ?_
    rintro e w7 ⟨rfl, hb7⟩
    have HB7 : Hid (Below w3.heap.size w3 w7) := HB6.out.trans (hb7.mono HB6.out.size)
    clear hb7 hgt hgt2 hgz hac hacz ha0 HSM
    go_wp2_with fail
    go_loopw [10, 11, 53] (fun v10 v11 v53 wr => ∃ i : Nat, i <= q /\ v53 = .int .i64 i /\ Hid (Below w3.heap.size w3 wr)) (fun _ _ v53 _ => q - (intOf v53).toNat)
    case atStart => exact ⟨0, Nat.zero_le _, rfl, HB7⟩
    case round =>
     clear HB7
     obtain ⟨i, hi, rfl, HB8⟩ := hrel
     obtain ⟨w8, hw8⟩ : ∃ w8, wr = w8 := ⟨_, rfl⟩
     rw [hw8] at HB8 |-
     clear hw8
     by_cases hlt : i < q
     ·have hiz : (i : Int) < (q : Int) := by omega
      have hiA : (0 : Int) <= (i : Int) := by omega
      obtain ⟨ad, x, rfl, hab, hx, hpr, hcells⟩ := HPT.out.at_ hlt
      obtain ⟨q0, q1, q2, q3, q4⟩ := hcells w8 (HBW.out _ HB8.out)
      have HLT := hI hlt
      have HCL := hI hcells
      have HPR := hI hpr
      have HXM := hI (List.mem_of_getElem? hx)
      clear hx hpr hcells hab
      obtain ⟨pid, title, text, pea, pen, pec, ra, rn, rc, rs⟩ := x
      simp only at q0 q1 q2 q3 q4 HCL HPR
      have hrn : rn <= 9223372036854775807 := HPR.out.size.2.2
      go_wp2_with fail
      go_loopw [11, 62] (fun v11 v62 wi => ∃ j : Nat, j <= rn /\ v62 = .int .i64 j /\ Hid (Below w3.heap.size w3 wi)) (fun _ v62 _ => rn - (intOf v62).toNat)
      case atStart => exact ⟨0, Nat.zero_le _, rfl, HB8⟩
      case round =>
       clear HB8 q0 q1 q2 q3 q4
       obtain ⟨j, hj, rfl, HB9⟩ := hrel
       obtain ⟨w9, hw9⟩ : ∃ w9, wr = w9 := ⟨_, rfl⟩
       rw [hw9] at HB9 |-
       clear hw9
       by_cases hjt : j < rn
       ·have hjz : (j : Int) < (rn : Int) := by omega
        have hjA : (0 : Int) <= (j : Int) := by omega
        have HJT := hI hjt
        obtain ⟨bd, r, hra, hbb, hr, hrc⟩ := HPR.out.refs.at_ hjt
        have HOK : RfOk r := HPR.out.ok r (List.mem_of_getElem? hr)
        have HRM : r ∈ allR (L.take q) := List.mem_flatMap.2 ⟨_, HXM.out, List.mem_of_getElem? hr⟩
        simp only at hra
        subst hra
        obtain ⟨r1, r2⟩ := r
        simp only at hrc
        have HCR : Hid (∀ W, Below w9.heap.size w9 W -> W.cell? (bd.add (j * 2)) = some (.int .i64 r1) /\ W.cell? ⟨(bd.add (j * 2)).block, (bd.add (j * 2)).off + 1, none⟩ = some (.int .i64 r2)) := fun W hW => hrc W (HBW.out _ (HB9.out.trans (hW.mono HB9.out.size)))
        have HC4 : Hid (∀ W, Below w9.heap.size w9 W -> W.cell? ⟨(ad.add (i * 5)).block, (ad.add (i * 5)).off + 4, none⟩ = some (.slice (some bd) rn rc)) := fun W hW => (HCL.out W (HBW.out _ (HB9.out.trans (hW.mono HB9.out.size)))).2.2.2.2
        have HC2 : Hid (∀ W, Below w9.heap.size w9 W -> W.cell? ⟨w.heap.size, 2, none⟩ = some (.slice (some ad) pn pc)) := fun W hW => HK3.out W (HB9.out.trans (hW.mono HB9.out.size)) 2 _ rfl
        have HG1 := hI fun (W : World) (hW : Below w9.heap.size w9 W) => HN1.out r1 r2 HOK W (HB9.out.trans (hW.mono HB9.out.size))
        have HG2 := hI fun (W : World) (hW : Below w9.heap.size w9 W) => HN2.out r1 r2 HOK W (HB9.out.trans (hW.mono HB9.out.size))
        rw [nums_take HRM] at HG1
        obtain ⟨NK, hNK⟩ : ∃ x, numR (numsF [] (allR L)) (r1, r2) = x := ⟨_, rfl⟩
        rw [hNK] at HG1 HG2
        have hnn : (NK != NK) = false := by simp
        clear hNK HRM HOK hr hrc hbb hjt hlt
        go_upto_region 13 with fail
        refine wp_region_told [Told.is (.slice (some ad) q pc), Told.is (.slice (some ad) q pc), Told.is (.int .i64 (i : Int)), Told.is (.pointer (some (ad.add (i * 5)))), Told.is (.pointer (some ⟨(ad.add (i * 5)).block, (ad.add (i * 5)).off + 4, none⟩)), Told.is (.slice (some bd) rn rc), Told.is (.int .i64 (j : Int)), Told.is (.pointer (some (bd.add (j * 2)))), Told.is (.agg #[.int .i64 r1, .int .i64 r2]), Told.is (.int .i64 NK), Told.is (.pointer (some ⟨w.heap.size, 2, none⟩)), Told.is (.slice (some ad) pn pc), Told.is (.slice (some ad) q pc), Told.is (.int .i64 (i : Int)), Told.is (.pointer (some (ad.add (i * 5)))), Told.is (.pointer (some ⟨(ad.add (i * 5)).block, (ad.add (i * 5)).off + 4, none⟩)), Told.is (.slice (some bd) rn rc), Told.is (.int .i64 (j : Int)), Told.is (.pointer (some (bd.add (j * 2)))), Told.is (.agg #[.int .i64 r1, .int .i64 r2]), Told.is (.int .i64 NK), Told.is (.bool false)] (by kernel_rfl) (by kernel_rfl) ?_ ?_
        ·refine And.intro (fun w1 vals hB hd K hK => ?_) ?_
         ·clear hd
          simp only [putAll, Act.put, pS] at hK |-
          refine gwp_none rfl ?_
          go_simp
          exact hK _ _ rfl bR
         refine And.intro (fun w1 vals hB hd K hK => ?_) ?_
         ·clear hd
          simp only [putAll, Act.put, pS] at hK |-
          refine gwp_none rfl ?_
          go_simp
          exact hK _ _ rfl bR
         refine And.intro (fun w1 vals hB hd K hK => ?_) ?_
         ·clear hd
          simp only [putAll, Act.put, pS] at hK |-
          refine gwp_none rfl ?_
          go_simp
          exact hK _ _ rfl bR
         refine And.intro (fun w1 vals hB hd K hK => ?_) ?_
         ·have e1 := tI (hd 1 rfl) rfl
          have e2 := tI (hd 2 rfl) rfl
          clear hd
          simp only [putAll, Act.put, pS] at hK |-
          simp only [e1, e2] at hK |-
          clear e1 e2
          refine gwp_none rfl ?_
          go_simp
          exact hK _ _ rfl bR
         refine And.intro (fun w1 vals hB hd K hK => ?_) ?_
         ·have e3 := tI (hd 3 rfl) rfl
          clear hd
          simp only [putAll, Act.put, pS] at hK |-
          simp only [e3] at hK |-
          clear e3
          refine gwp_none rfl ?_
          go_simp
          exact hK _ _ rfl bR
         refine And.intro (fun w1 vals hB hd K hK => ?_) ?_
         ·have e4 := tI (hd 4 rfl) rfl
          clear hd
          simp only [putAll, Act.put, pS] at hK |-
          simp only [e4] at hK |-
          clear e4
          refine gwp_none rfl ?_
          have cc := HC4.out w1 hB
          go_simp
          exact hK _ _ rfl bR
         refine And.intro (fun w1 vals hB hd K hK => ?_) ?_
         ·clear hd
          simp only [putAll, Act.put, pS] at hK |-
          refine gwp_none rfl ?_
          go_simp
          exact hK _ _ rfl bR
         refine And.intro (fun w1 vals hB hd K hK => ?_) ?_
         ·have e5 := tI (hd 5 rfl) rfl
          have e6 := tI (hd 6 rfl) rfl
          clear hd
          simp only [putAll, Act.put, pS] at hK |-
          simp only [e5, e6] at hK |-
          clear e5 e6
          refine gwp_none rfl ?_
          go_simp
          exact hK _ _ rfl bR
         refine And.intro (fun w1 vals hB hd K hK => ?_) ?_
         ·have e7 := tI (hd 7 rfl) rfl
          clear hd
          simp only [putAll, Act.put, pS] at hK |-
          simp only [e7] at hK |-
          clear e7
          refine gwp_none rfl ?_
          obtain ⟨cr0, cr1⟩ := HCR.out w1 hB
          go_simp
          exact hK _ _ rfl bR
         refine And.intro (fun w1 vals hB hd K hK => ?_) ?_
         ·have e0 := tI (hd 0 rfl) rfl
          have e8 := tI (hd 8 rfl) rfl
          clear hd
          simp only [putAll, Act.put, pS] at hK |-
          simp only [e0, e8] at hK |-
          clear e0 e8
          refine gwp_none rfl ?_
          go_simp
          refine (HG1.out w1 hB).mono ?_
          rintro e w4 ⟨rfl, hb4⟩
          exact hK _ _ rfl hb4
         refine And.intro (fun w1 vals hB hd K hK => ?_) ?_
         ·clear hd
          simp only [putAll, Act.put, pS] at hK |-
          refine gwp_none rfl ?_
          go_simp
          exact hK _ _ rfl bR
         refine And.intro (fun w1 vals hB hd K hK => ?_) ?_
         ·have e10 := tI (hd 10 rfl) rfl
          clear hd
          simp only [putAll, Act.put, pS] at hK |-
          simp only [e10] at hK |-
          clear e10
          refine gwp_none rfl ?_
          have c2 := HC2.out w1 hB
          go_simp
          exact hK _ _ rfl bR
         refine And.intro (fun w1 vals hB hd K hK => ?_) ?_
         ·clear hd
          simp only [putAll, Act.put, pS] at hK |-
          refine gwp_none rfl ?_
          go_simp
          exact hK _ _ rfl bR
         refine And.intro (fun w1 vals hB hd K hK => ?_) ?_
         ·clear hd
          simp only [putAll, Act.put, pS] at hK |-
          refine gwp_none rfl ?_
          go_simp
          exact hK _ _ rfl bR
         refine And.intro (fun w1 vals hB hd K hK => ?_) ?_
         ·have e12 := tI (hd 12 rfl) rfl
          have e13 := tI (hd 13 rfl) rfl
          clear hd
          simp only [putAll, Act.put, pS] at hK |-
          simp only [e12, e13] at hK |-
          clear e12 e13
          refine gwp_none rfl ?_
          go_simp
          exact hK _ _ rfl bR
         refine And.intro (fun w1 vals hB hd K hK => ?_) ?_
         ·have e14 := tI (hd 14 rfl) rfl
          clear hd
          simp only [putAll, Act.put, pS] at hK |-
          simp only [e14] at hK |-
          clear e14
          refine gwp_none rfl ?_
          go_simp
          exact hK _ _ rfl bR
         refine And.intro (fun w1 vals hB hd K hK => ?_) ?_
         ·have e15 := tI (hd 15 rfl) rfl
          clear hd
          simp only [putAll, Act.put, pS] at hK |-
          simp only [e15] at hK |-
          clear e15
          refine gwp_none rfl ?_
          have cc := HC4.out w1 hB
          go_simp
          exact hK _ _ rfl bR
         refine And.intro (fun w1 vals hB hd K hK => ?_) ?_
         ·clear hd
          simp only [putAll, Act.put, pS] at hK |-
          refine gwp_none rfl ?_
          go_simp
          exact hK _ _ rfl bR
         refine And.intro (fun w1 vals hB hd K hK => ?_) ?_
         ·have e16 := tI (hd 16 rfl) rfl
          have e17 := tI (hd 17 rfl) rfl
          clear hd
          simp only [putAll, Act.put, pS] at hK |-
          simp only [e16, e17] at hK |-
          clear e16 e17
          refine gwp_none rfl ?_
          go_simp
          exact hK _ _ rfl bR
         refine And.intro (fun w1 vals hB hd K hK => ?_) ?_
         ·have e18 := tI (hd 18 rfl) rfl
          clear hd
          simp only [putAll, Act.put, pS] at hK |-
          simp only [e18] at hK |-
          clear e18
          refine gwp_none rfl ?_
          obtain ⟨cr0, cr1⟩ := HCR.out w1 hB
          go_simp
          exact hK _ _ rfl bR
         refine And.intro (fun w1 vals hB hd K hK => ?_) ?_
         ·have e11 := tI (hd 11 rfl) rfl
          have e19 := tI (hd 19 rfl) rfl
          clear hd
          simp only [putAll, Act.put, pS] at hK |-
          simp only [e11, e19] at hK |-
          clear e11 e19
          refine gwp_none rfl ?_
          go_simp
          refine (HG2.out w1 hB).mono ?_
          rintro e w4 ⟨rfl, hb4⟩
          exact hK _ _ rfl hb4
         refine And.intro (fun w1 vals hB hd K hK => ?_) ?_
         ·have e9 := tI (hd 9 rfl) rfl
          have e20 := tI (hd 20 rfl) rfl
          clear hd
          simp only [putAll, Act.put, pS] at hK |-
          simp only [e9, e20] at hK |-
          clear e9 e20
          refine gwp_none rfl ?_
          go_simp
          exact hK _ _ rfl bR
         exact trivial
        ·intro w1 vals hB hd
         have e21 := tI (hd 21 (by decide)) rfl
         clear hd
         simp only [putAll, Act.put, pS]
         simp only [e21]
         clear e21
         have HB10 : Hid (Below w3.heap.size w3 w1) := HB9.out.trans (hB.mono HB9.out.size)
         clear hB HG1 HG2 HC2 HC4 HCR
         go_wp2
         go_roundw
         case rel => exact ⟨j + 1, HJT.out, by go_num, HB10⟩
         case measure => have := HJT.out; simp [intOf]; omega
       ·obtain rfl : rn = j := by omega
        have hjz : ¬ (rn : Int) < (rn : Int) := by omega
        go_wp2
        go_roundw
        case rel => exact ⟨i + 1, HLT.out, by go_num, HB9⟩
        case measure => have := HLT.out; simp [intOf]; omega
     ·obtain rfl : q = i := by omega
      have hiz : ¬ (q : Int) < (q : Int) := by omega
      go_wp2_with fail
      refine (HA.out w8 HB8.out).mono ?_
      rintro e w10 ⟨rfl, hb10⟩
      have HBE := hI (HBW.out _ (HB8.out.trans (hb10.mono HB8.out.size)))
      clear hb10
      go_wp2
      go_ret
      exact ⟨rfl, HBE.out⟩
end
end Go.Proofs.YthcabnfcgjnlnaaGreatDoor
