import Derived.Test.YthcabnfcgjnlnaaGreatDoorRo10
/-
  The reference's Kids: those of a tier whose parent is a note.
-/
namespace Go.Proofs.YthcabnfcgjnlnaaGreatDoor
open Go.RowKit Ru Lay
attribute [local go_sem ↓] Go.wp_at_zero Go.wp_at_succ
set_option linter.unusedVariables false
set_option linter.unusedSimpArgs false

set_option maxHeartbeats 8000000 in
set_option maxRecDepth 100000 in
theorem refKids_any (d : Dv) (T : List Ti) (l : List Nt) (id t : Int) (w : World) (hL : LightN T l) (hT : TiersR w w.heap.size d.ta d.tn T) (hl : NotesR w w.heap.size d.na d.nn l) (hn : d.nn < 20) (ht : 0 ≤ t ∧ t < (T.length : Int)) :
    Calls Tryz.prog 47 #[docV d, .int .i64 id, .int .i64 t] w fun e w' => ∃ v, e = .returned v ∧ OwnI w' w.heap.size v (kidF T l id t) ∧ Below w.heap.size w w' := by
  have hlen : (ofL T l t).length ≤ 20 := by
    have h1 := ofI_len (T := T) (l := l) (t := t)
    have h2 := hl.len
    unfold ofI at h1
    rw [if_neg (by omega)] at h1
    omega
  have HOF := Lib.hid fun (W : World) (hW : Below w.heap.size w W) => of39_any d T l t W hL (hT.on hW) (hl.on hW) (by omega)
  have HG := Lib.hid fun (W : World) (hW : Below w.heap.size w W) (i : Int) => refGet_any d l i W (hl.on hW) (by omega)
  have hE : kidF T l id t = (ofL T l t).filter fun k => decide (((getN l k).getD nt0).parent = id) := by unfold kidF ofI; rw [if_neg (by omega)]
  rw [hE]
  obtain ⟨ids, hids⟩ : ∃ ids, ofL T l t = ids := ⟨_, rfl⟩
  rw [hids] at HOF hlen ⊢
  clear hT hl hL hE hids ht
  unfold docV at HOF HG
  unfold docV
  obtain ⟨rid, name, len, day, sa, sn, sc, ta, tn, tc, na, nn, nc⟩ := d
  simp only at HOF HG hn ⊢
  obtain ⟨W0, hW0, hz0, hB0, hK0⟩ := doc_cells w rid name len day sa ta na sn sc tn tc nn nc
  obtain ⟨W1, hW1⟩ : ∃ W1, W0.alloc (.cells #[] 3) = W1 := ⟨_, rfl⟩
  have HB : Hid (Below w.heap.size w W1) := by rw [← hW1]; exact hB0.alloc hB0.size _
  have hz1 : W1.heap.size = w.heap.size + 2 := by rw [← hW1]; simp; omega
  have hb01 : Below W0.heap.size W0 W1 := by rw [← hW1]; exact (Below.refl _ _).alloc (Nat.le_refl _) _
  have HK : Hid (∀ W, Below (w.heap.size + 1) W1 W → W.rangeAt w.heap.size 0 [.int .i64 rid, .string name, .int .i64 len, .int .i64 day, .slice sa sn sc, .slice ta tn tc, .slice na nn nc]) := fun W hW j v hv => by
    rw [hW.cell (p := ⟨w.heap.size, 0 + j, none⟩) (by show w.heap.size < _; omega)]
    exact hK0 W1 hb01 j v hv
  have HOI : Hid (OwnI W1 (w.heap.size + 1) (.slice (some ⟨w.heap.size + 1, 0, none⟩) 0 0) []) := by
    rw [← hW1, ← hz0]
    exact int_made W0 W0.heap.size (Nat.le_refl _)
  clear hB0 hK0 hb01
  have k0 : W1.cell? ⟨w.heap.size, 0, none⟩ = some (.int .i64 rid) := HK.out W1 (Below.refl _ _) 0 _ rfl
  have k1 : W1.cell? ⟨w.heap.size, 1, none⟩ = some (.string name) := HK.out W1 (Below.refl _ _) 1 _ rfl
  have k2 : W1.cell? ⟨w.heap.size, 2, none⟩ = some (.int .i64 len) := HK.out W1 (Below.refl _ _) 2 _ rfl
  have k3 : W1.cell? ⟨w.heap.size, 3, none⟩ = some (.int .i64 day) := HK.out W1 (Below.refl _ _) 3 _ rfl
  have k4 : W1.cell? ⟨w.heap.size, 4, none⟩ = some (.slice sa sn sc) := HK.out W1 (Below.refl _ _) 4 _ rfl
  have k5 : W1.cell? ⟨w.heap.size, 5, none⟩ = some (.slice ta tn tc) := HK.out W1 (Below.refl _ _) 5 _ rfl
  have k6 : W1.cell? ⟨w.heap.size, 6, none⟩ = some (.slice na nn nc) := HK.out W1 (Below.refl _ _) 6 _ rfl
  have HOO := Lib.hid (HOF.out W1 HB.out)
  go_enter Tryz.func47, Tryz.ntmps47
  go_upto_region 2 with fail
  (try rw [hW0])
  (try rw [hW1])
  (try simp only [hz0])
  clear hW0 hW1
  go_wp2_with fail
  refine HOO.out.mono ?_
  rintro e w8 ⟨v8, rfl, hO8, hb8⟩
  have HB8 : Hid (Below w.heap.size w w8) := HB.out.trans (hb8.mono HB.out.size)
  have HB18 := Lib.hid hb8
  have HOI8 := Lib.hid (HOI.out.on hb8)
  have hz8 := hb8.size
  obtain ⟨A8, c8, hv8, h8a, h8b, h8r⟩ := OwnI.form hO8
  subst hv8
  have HIR : Hid (OwnI w8 W1.heap.size (.slice A8 ids.length c8) ids) := hO8
  have HAP : Hid (Apart (.slice A8 ids.length c8) (.slice (some ⟨w.heap.size + 1, 0, none⟩) 0 0)) := fun b hb he => by
    have h1 := (hO8.lt b hb).1
    simp [Value.ownBlock] at he
    omega
  clear hO8 hb8 h8a h8b h8r HOO HOF HOI k0 k1 k2 k3 k4 k5 k6
  obtain ⟨w0, hw0⟩ : ∃ w0, w8 = w0 := ⟨_, rfl⟩
  rw [hw0] at HB8 HB18 HOI8 HIR hz8 ⊢
  clear hw0
  go_wp2_with fail
  go_loopw [7, 9, 10, 11] (fun v7 v9 v10 v11 wr => ∃ i : Nat, i ≤ ids.length ∧ v9 = .int .i64 i ∧ Hid (OwnI wr (w.heap.size + 1) v7 ((ids.take i).filter fun k => decide (((getN l k).getD nt0).parent = id))) ∧ Hid (OwnI wr W1.heap.size (.slice A8 ids.length c8) ids) ∧ Hid (Apart (.slice A8 ids.length c8) v7) ∧ Hid (Below (w.heap.size + 1) W1 wr) ∧ Hid (Below w.heap.size w wr)) (fun _ v9 _ _ _ => ids.length - (intOf v9).toNat)
  case atStart => exact ⟨0, Nat.zero_le _, rfl, HOI8.out, HIR.out, HAP.out, HB18.out.mono (by omega), HB8.out⟩
  case round =>
    clear HOI8 HIR HAP HB18 HB8
    obtain ⟨i, hi, rfl, HO, HIR, HAP, HB02, HBW⟩ := hrel
    obtain ⟨w2, hw2⟩ : ∃ w2, wr = w2 := ⟨_, rfl⟩
    rw [hw2] at HO HIR HB02 HBW ⊢
    clear hw2
    have hsz2 : w.heap.size + 1 ≤ w2.heap.size := by have := HB02.out.size; omega
    by_cases hlt : i < ids.length
    · have hiz : (i : Int) < (ids.length : Int) := by omega
      have hiA : (0 : Int) ≤ (i : Int) := by omega
      obtain ⟨A9, c9, hv9, _, _, h9r⟩ := OwnI.form HIR.out
      injection hv9 with hA9 _ hc9
      rw [← hA9] at h9r
      obtain ⟨bd, x, hA, hbb, hidx, hc⟩ := h9r.at_ hlt
      subst hA
      have HCX : Hid (∀ W, Below w2.heap.size w2 W → W.cell? (bd.add i) = some (.int .i64 x)) := fun W hW => (hW.cell (by rw [block_of_add]; exact hbb)).trans hc
      have HLT := Lib.hid hlt
      have HNX := Lib.hid (filter_next (p := fun k => decide (((getN l k).getD nt0).parent = id)) hidx)
      have hpt : ((ids.take i).filter fun k => decide (((getN l k).getD nt0).parent = id)).length ≤ 20 := by
        have h1 := List.length_filter_le (fun k => decide (((getN l k).getD nt0).parent = id)) (ids.take i)
        rw [List.length_take] at h1
        omega
      obtain ⟨ll, hll⟩ : ∃ ll, ((ids.take i).filter fun k => decide (((getN l k).getD nt0).parent = id)) = ll := ⟨_, rfl⟩
      rw [hll] at HNX hpt HO
      have HGX := Lib.hid fun (W : World) (hW : Below w2.heap.size w2 W) => HG.out W (HBW.out.trans (hW.mono HBW.out.size)) x
      unfold getV noteV at HGX
      obtain ⟨y, hy⟩ : ∃ y, (getN l x).getD nt0 = y := ⟨_, rfl⟩
      obtain ⟨bs, hbs⟩ : ∃ bs, (getN l x).isSome = bs := ⟨_, rfl⟩
      have HNX2 : Hid ((ids.take (i + 1)).filter (fun k => decide (((getN l k).getD nt0).parent = id)) = ll ++ if decide (y.parent = id) = true then [x] else []) := by rw [← hy]; exact HNX.out
      rw [hy, hbs] at HGX
      clear hc hidx hll HNX h9r hy hbs hA9 hc9 hz8
      go_upto_region 6 with fail
      refine wp_region_toldA 9 10 7 [.int .i64 y.nid, .int .i64 y.tier, .int .i64 y.parent, .int .i64 y.at1, .int .i64 y.at2, .int .i64 y.rank, .string y.text] [ToldA.is (.agg #[.int .i64 rid, .string name, .int .i64 len, .int .i64 day, .slice sa sn sc, .slice ta tn tc, .slice na nn nc]), ToldA.is (.slice (some bd) ids.length c8), ToldA.is (.int .i64 (i : Int)), ToldA.is (.pointer (some (bd.add i))), ToldA.is (.int .i64 x), ToldA.is (.tuple #[.agg #[.int .i64 y.nid, .int .i64 y.tier, .int .i64 y.parent, .int .i64 y.at1, .int .i64 y.at2, .int .i64 y.rank, .string y.text], .bool bs]), ToldA.is (.tuple #[.agg #[.int .i64 y.nid, .int .i64 y.tier, .int .i64 y.parent, .int .i64 y.at1, .int .i64 y.at2, .int .i64 y.rank, .string y.text], .bool bs]), ToldA.is (.agg #[.int .i64 y.nid, .int .i64 y.tier, .int .i64 y.parent, .int .i64 y.at1, .int .i64 y.at2, .int .i64 y.rank, .string y.text]), ToldA.is (.bool bs), ToldA.new, ToldA.put, ToldA.is (.bool bs)] (by omega) (by kernel_rfl) (by kernel_rfl) rfl ?_ ?_
      · refine And.intro (fun w1 vals hB hd a1 ha1 K hK => ?_) ?_
        · clear hd
          subst ha1
          simp only [putAll, Act.put, List.setIfInBounds_toArray, List.set_cons_zero, List.set_cons_succ] at hK ⊢
          obtain ⟨ve, hve⟩ : ∃ f : Nat → Value, f = vals := ⟨_, rfl⟩
          rw [← hve] at hK  ⊢
          clear hve
          refine gwp_none rfl ?_
          have k0 : w1.cell? ⟨w.heap.size, 0, none⟩ = some (.int .i64 rid) := HK.out w1 (HB02.out.trans (hB.mono hsz2)) 0 _ rfl
          have k1 : w1.cell? ⟨w.heap.size, 1, none⟩ = some (.string name) := HK.out w1 (HB02.out.trans (hB.mono hsz2)) 1 _ rfl
          have k2 : w1.cell? ⟨w.heap.size, 2, none⟩ = some (.int .i64 len) := HK.out w1 (HB02.out.trans (hB.mono hsz2)) 2 _ rfl
          have k3 : w1.cell? ⟨w.heap.size, 3, none⟩ = some (.int .i64 day) := HK.out w1 (HB02.out.trans (hB.mono hsz2)) 3 _ rfl
          have k4 : w1.cell? ⟨w.heap.size, 4, none⟩ = some (.slice sa sn sc) := HK.out w1 (HB02.out.trans (hB.mono hsz2)) 4 _ rfl
          have k5 : w1.cell? ⟨w.heap.size, 5, none⟩ = some (.slice ta tn tc) := HK.out w1 (HB02.out.trans (hB.mono hsz2)) 5 _ rfl
          have k6 : w1.cell? ⟨w.heap.size, 6, none⟩ = some (.slice na nn nc) := HK.out w1 (HB02.out.trans (hB.mono hsz2)) 6 _ rfl
          go_simp
          exact hK _ _ rfl (Below.refl _ _)
        refine And.intro (fun w1 vals hB hd a1 ha1 K hK => ?_) ?_
        · clear hd
          subst ha1
          simp only [putAll, Act.put, List.setIfInBounds_toArray, List.set_cons_zero, List.set_cons_succ] at hK ⊢
          obtain ⟨ve, hve⟩ : ∃ f : Nat → Value, f = vals := ⟨_, rfl⟩
          rw [← hve] at hK  ⊢
          clear hve
          refine gwp_none rfl ?_
          go_simp
          exact hK _ _ rfl (Below.refl _ _)
        refine And.intro (fun w1 vals hB hd a1 ha1 K hK => ?_) ?_
        · clear hd
          subst ha1
          simp only [putAll, Act.put, List.setIfInBounds_toArray, List.set_cons_zero, List.set_cons_succ] at hK ⊢
          obtain ⟨ve, hve⟩ : ∃ f : Nat → Value, f = vals := ⟨_, rfl⟩
          rw [← hve] at hK  ⊢
          clear hve
          refine gwp_none rfl ?_
          go_simp
          exact hK _ _ rfl (Below.refl _ _)
        refine And.intro (fun w1 vals hB hd a1 ha1 K hK => ?_) ?_
        · have e1 : vals 1 = .slice (some bd) ids.length c8 := toldA_at (hd 1 rfl) rfl
          have e2 : vals 2 = .int .i64 (i : Int) := toldA_at (hd 2 rfl) rfl
          clear hd
          subst ha1
          simp only [putAll, Act.put, List.setIfInBounds_toArray, List.set_cons_zero, List.set_cons_succ] at hK ⊢
          simp only [e1, e2] at hK ⊢
          obtain ⟨ve, hve⟩ : ∃ f : Nat → Value, f = vals := ⟨_, rfl⟩
          rw [← hve] at hK  ⊢
          clear e1 e2 hve
          refine gwp_none rfl ?_
          go_simp
          exact hK _ _ rfl (Below.refl _ _)
        refine And.intro (fun w1 vals hB hd a1 ha1 K hK => ?_) ?_
        · have e3 : vals 3 = .pointer (some (bd.add i)) := toldA_at (hd 3 rfl) rfl
          clear hd
          subst ha1
          simp only [putAll, Act.put, List.setIfInBounds_toArray, List.set_cons_zero, List.set_cons_succ] at hK ⊢
          simp only [e3] at hK ⊢
          obtain ⟨ve, hve⟩ : ∃ f : Nat → Value, f = vals := ⟨_, rfl⟩
          rw [← hve] at hK  ⊢
          clear e3 hve
          refine gwp_none rfl ?_
          have hcq : w1.cell? (bd.add i) = some (.int .i64 x) := HCX.out w1 hB
          go_simp
          exact hK _ _ rfl (Below.refl _ _)
        refine And.intro (fun w1 vals hB hd a1 ha1 K hK => ?_) ?_
        · have e0 : vals 0 = .agg #[.int .i64 rid, .string name, .int .i64 len, .int .i64 day, .slice sa sn sc, .slice ta tn tc, .slice na nn nc] := toldA_at (hd 0 rfl) rfl
          have e4 : vals 4 = .int .i64 x := toldA_at (hd 4 rfl) rfl
          clear hd
          subst ha1
          simp only [putAll, Act.put, List.setIfInBounds_toArray, List.set_cons_zero, List.set_cons_succ] at hK ⊢
          simp only [e0, e4] at hK ⊢
          obtain ⟨ve, hve⟩ : ∃ f : Nat → Value, f = vals := ⟨_, rfl⟩
          rw [← hve] at hK  ⊢
          clear e0 e4 hve
          refine gwp_none rfl ?_
          go_simp
          refine (HGX.out w1 hB).mono ?_
          rintro e w3 ⟨rfl, hb⟩
          exact hK _ _ rfl hb
        refine And.intro (fun w1 vals hB hd a1 ha1 K hK => ?_) ?_
        · have e5 : vals 5 = .tuple #[.agg #[.int .i64 y.nid, .int .i64 y.tier, .int .i64 y.parent, .int .i64 y.at1, .int .i64 y.at2, .int .i64 y.rank, .string y.text], .bool bs] := toldA_at (hd 5 rfl) rfl
          clear hd
          subst ha1
          simp only [putAll, Act.put, List.setIfInBounds_toArray, List.set_cons_zero, List.set_cons_succ] at hK ⊢
          simp only [e5] at hK ⊢
          obtain ⟨ve, hve⟩ : ∃ f : Nat → Value, f = vals := ⟨_, rfl⟩
          rw [← hve] at hK  ⊢
          clear e5 hve
          refine gwp_none rfl ?_
          go_simp
          exact hK _ _ rfl (Below.refl _ _)
        refine And.intro (fun w1 vals hB hd a1 ha1 K hK => ?_) ?_
        · have e6 : vals 6 = .tuple #[.agg #[.int .i64 y.nid, .int .i64 y.tier, .int .i64 y.parent, .int .i64 y.at1, .int .i64 y.at2, .int .i64 y.rank, .string y.text], .bool bs] := toldA_at (hd 6 rfl) rfl
          clear hd
          subst ha1
          simp only [putAll, Act.put, List.setIfInBounds_toArray, List.set_cons_zero, List.set_cons_succ] at hK ⊢
          simp only [e6] at hK ⊢
          obtain ⟨ve, hve⟩ : ∃ f : Nat → Value, f = vals := ⟨_, rfl⟩
          rw [← hve] at hK  ⊢
          clear e6 hve
          refine gwp_none rfl ?_
          go_simp
          exact hK _ _ rfl (Below.refl _ _)
        refine And.intro (fun w1 vals hB hd a1 ha1 K hK => ?_) ?_
        · have e6 : vals 6 = .tuple #[.agg #[.int .i64 y.nid, .int .i64 y.tier, .int .i64 y.parent, .int .i64 y.at1, .int .i64 y.at2, .int .i64 y.rank, .string y.text], .bool bs] := toldA_at (hd 6 rfl) rfl
          clear hd
          subst ha1
          simp only [putAll, Act.put, List.setIfInBounds_toArray, List.set_cons_zero, List.set_cons_succ] at hK ⊢
          simp only [e6] at hK ⊢
          obtain ⟨ve, hve⟩ : ∃ f : Nat → Value, f = vals := ⟨_, rfl⟩
          rw [← hve] at hK  ⊢
          clear e6 hve
          refine gwp_none rfl ?_
          go_simp
          exact hK _ _ rfl (Below.refl _ _)
        refine And.intro (fun w1 vals hB hd a1 ha1 K hK => ?_) ?_
        · clear hd
          subst ha1
          simp only [putAll, Act.put, List.setIfInBounds_toArray, List.set_cons_zero, List.set_cons_succ] at hK ⊢
          obtain ⟨ve, hve⟩ : ∃ f : Nat → Value, f = vals := ⟨_, rfl⟩
          rw [← hve] at hK ⊢
          clear hve
          refine gwp_none rfl ?_
          go_simp
          exact hK _ _ ⟨_, rfl, hB.size, by simp, there_new w1 _ _⟩ ((Below.refl _ _).alloc (Nat.le_refl _) _)
        refine And.intro (fun w1 vals hB hd a1 ha1 K hK => ?_) ?_
        · have e7 : vals 7 = .agg #[.int .i64 y.nid, .int .i64 y.tier, .int .i64 y.parent, .int .i64 y.at1, .int .i64 y.at2, .int .i64 y.rank, .string y.text] := toldA_at (hd 7 rfl) rfl
          have p9 : NewAt 7 _ (vals 9) _ := toldA_at (t := ToldA.new) (hd 9 rfl) rfl
          clear hd
          refine gwp_none rfl ?_
          obtain ⟨bN, hvN, h0N, h1N, hth⟩ := p9
          have hev1 : a1.eval (.tmp 10) = .pointer (some ⟨bN, 0, none⟩) := by rw [ha1]; exact (eval_slot (i := 9) (by kernel_rfl) (by kernel_rfl) rfl).trans hvN
          have hev2 : a1.eval (.tmp 29) = .agg #[.int .i64 y.nid, .int .i64 y.tier, .int .i64 y.parent, .int .i64 y.at1, .int .i64 y.at2, .int .i64 y.rank, .string y.text] := by rw [ha1]; exact (eval_slot (i := 7) (by kernel_rfl) (by kernel_rfl) rfl).trans e7
          clear ha1
          obtain ⟨wS, hwS⟩ : ∃ wS, w1.setCells bN 0 (#[.int .i64 y.nid, .int .i64 y.tier, .int .i64 y.parent, .int .i64 y.at1, .int .i64 y.at2, .int .i64 y.rank, .string y.text] : Array Value).toList = wS := ⟨_, rfl⟩
          have hX : BelowX bN w1 wS := by rw [← hwS]; exact BelowX.set _ _ _
          have hR : wS.rangeAt bN 0 [.int .i64 y.nid, .int .i64 y.tier, .int .i64 y.parent, .int .i64 y.at1, .int .i64 y.at2, .int .i64 y.rank, .string y.text] := by rw [← hwS]; exact World.rangeAt_setCells_same w1 bN 0 [.int .i64 y.nid, .int .i64 y.tier, .int .i64 y.parent, .int .i64 y.at1, .int .i64 y.at2, .int .i64 y.rank, .string y.text] hth
          refine wp_store_mid 58 (.tmp 10) (.tmp 29) rfl bN 0 #[.int .i64 y.nid, .int .i64 y.tier, .int .i64 y.parent, .int .i64 y.at1, .int .i64 y.at2, .int .i64 y.rank, .string y.text] hev1 hev2 hth (by kernel_rfl) (by simp [Value.oneCell']) ?_
          rw [hwS]
          exact hK undef wS trivial ⟨by kernel_rfl, bN, hvN, h0N, h1N, hX, hR⟩
        refine And.intro (fun w1 vals hB hd a1 ha1 K hK => ?_) ?_
        · have e8 : vals 8 = .bool bs := toldA_at (hd 8 rfl) rfl
          clear hd
          subst ha1
          simp only [putAll, Act.put, List.setIfInBounds_toArray, List.set_cons_zero, List.set_cons_succ] at hK ⊢
          simp only [e8] at hK ⊢
          obtain ⟨ve, hve⟩ : ∃ f : Nat → Value, f = vals := ⟨_, rfl⟩
          rw [← hve] at hK  ⊢
          clear e8 hve
          refine gwp_none rfl ?_
          go_simp
          exact hK _ _ rfl (Below.refl _ _)
        exact trivial
      · intro wq vals hB hd hfl
        have e11 : vals 11 = .bool bs := toldA_at (hd 11 (by decide)) rfl
        obtain ⟨bN, hvN, h0N, h1N, hrN⟩ := hfl (by decide)
        clear hfl
        clear hd
        simp only [putAll, Act.put, List.setIfInBounds_toArray, List.set_cons_zero, List.set_cons_succ]
        simp only [e11, hvN]
        obtain ⟨ve, hve⟩ : ∃ f : Nat → Value, f = vals := ⟨_, rfl⟩
        rw [← hve]
        clear e11 hvN hve
        have HB03 : Hid (Below (w.heap.size + 1) W1 wq) := HB02.out.trans (hB.mono hsz2)
        have HBW3 : Hid (Below w.heap.size w wq) := HBW.out.trans (hB.mono HBW.out.size)
        have HOO := Lib.hid (HO.out.on hB)
        have HIO : Hid (OwnI wq W1.heap.size (.slice (some bd) ids.length c8) ids) := HIR.out.on hB
        have hcw : wq.cell? (bd.add i) = some (.int .i64 x) := HCX.out wq hB
        have hs3 : w.heap.size + 1 ≤ wq.heap.size := by have := hB.size; omega
        have c2 : wq.cell? ⟨bN, 2, none⟩ = some (.int .i64 y.parent) := hrN 2 _ rfl
        clear hB HO HIR hrN h0N h1N HCX HGX
        by_cases hp : y.parent = id
        · have hd : decide (y.parent = id) = true := decide_eq_true hp
          have hq : (y.parent == id) = true := beq_iff_eq.2 hp
          clear hp
          go_wp2_with (at_builtin; refine wpList_app1 rfl (.tmp 35) (.tmp 40) 32 rfl (w.heap.size + 1) 3 8 (.int .i64 0) info_int rfl Tryz.underlying32 rfl HOO.out rfl rfl (by omega) (by omega) hs3 ?_; rintro v5 w4 hown5 hb5 hs5 hk5)
          obtain ⟨hI4, hA4⟩ := hk5 _ _ _ _ _ _ HIO.out HAP.out
          have HI4 := Lib.hid hI4
          have HA4 := Lib.hid hA4
          have HO4 : Hid (OwnI w4 (w.heap.size + 1) v5 (ll ++ [x])) := own_i hown5
          have HB04 : Hid (Below (w.heap.size + 1) W1 w4) := HB03.out.trans hb5
          have HBW4 : Hid (Below w.heap.size w w4) := HBW3.out.trans (hb5.mono (by omega))
          clear hown5 hb5 hk5 hI4 hA4
          go_wp2
          go_roundw
          case rel => exact ⟨i + 1, HLT.out, by go_num, (by rw [HNX2.out, if_pos hd]; exact HO4), HI4, HA4, HB04, HBW4⟩
          case measure => have := HLT.out; simp [intOf]; omega
        · have hd : ¬ decide (y.parent = id) = true := by simpa using hp
          have hq : (y.parent == id) = false := beq_eq_false_iff_ne.2 hp
          have HD := Lib.hid hd
          clear hp hd
          go_wp2
          go_roundw
          case rel => exact ⟨i + 1, HLT.out, by go_num, (by rw [HNX2.out, if_neg HD.out, List.append_nil]; exact HOO), HIO, HAP, HB03, HBW3⟩
          case measure => have := HLT.out; simp [intOf]; omega
    · obtain rfl : i = ids.length := by omega
      have hiz : ¬ (ids.length : Int) < (ids.length : Int) := by omega
      rw [List.take_length] at HO
      go_wp2
      go_ret
      exact ⟨_, rfl, own_base HO.out (by omega), HBW.out⟩
end Go.Proofs.YthcabnfcgjnlnaaGreatDoor
