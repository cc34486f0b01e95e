import Derived.Test.YthcabnfcgjnlnaaGreatDoorRo12
/-
  The reference's Words.
-/
namespace Go.Proofs.YthcabnfcgjnlnaaGreatDoor
open Go.RowKit Ru Lay
attribute [local go_sem ↓] Go.wp_at_zero Go.wp_at_succ
set_option linter.unusedVariables false
set_option linter.unusedSimpArgs false

set_option maxHeartbeats 4000000 in
set_option maxRecDepth 100000 in
theorem refWords_any (d : Dv) (T : List Ti) (l : List Nt) (id : Int) (K : Nat) (w : World) (hT : TiersR w w.heap.size d.ta d.tn T) (hl : NotesR w w.heap.size d.na d.nn l) (hL : LightN T l) (hnn : d.nn < 20) (htn : d.tn ≤ 1000000)
    (hend : ∀ x, curF l x K = none) (hK : K ≤ d.tn + 1) :
    Calls Tryz.prog 40 #[docV d, .int .i64 id] w fun e w' => ∃ v, e = .returned v ∧ OwnI w' w.heap.size v (wordsL T l id K) ∧ Below w.heap.size w w' := by
  have hTl := hT.len
  have HCL : Hid (∀ x, (chainL l x K).length ≤ 1000001) := fun x => by have := chainL_le (l := l) (id := x) K; omega
  have hlen : (ofI T l (roleT T 2)).length ≤ 1000000 := by have := ofI_len (T := T) (l := l) (t := roleT T 2); have := hl.len; omega
  have HRO := Lib.hid fun (W : World) (hW : Below w.heap.size w W) => refRole_any d.ta d.tn d.tc T 2 W (hT.on hW) (by omega)
  have HOF := Lib.hid fun (W : World) (hW : Below w.heap.size w W) => of39_any d T l (roleT T 2) W hL (hT.on hW) (hl.on hW) (by omega)
  have HCH := Lib.hid fun (W : World) (hW : Below w.heap.size w W) (x : Int) => refChain_any d l x K W (hl.on hW) (by omega) (hend x) hK htn
  have hneg : roleT T 2 < 0 → ofI T l (roleT T 2) = [] := fun h => by unfold ofI; rw [if_pos (.inl h)]
  have hpos : ¬ roleT T 2 < 0 → ofL T l (roleT T 2) = ofI T l (roleT T 2) := fun h => by
    unfold ofI
    rw [if_neg]
    rcases roleT_some T 2 with e | ⟨_, e, _⟩
    · omega
    · omega
  unfold wordsL
  obtain ⟨rt, hrt⟩ : ∃ rt, roleT T 2 = rt := ⟨_, rfl⟩
  rw [hrt] at HRO HOF hlen hneg hpos ⊢
  obtain ⟨ids, hids⟩ : ∃ ids, ofI T l rt = ids := ⟨_, rfl⟩
  rw [hids] at hlen hneg hpos ⊢
  clear hT hl hL hend hTl hrt hids
  unfold docV at HOF HCH
  unfold docV
  obtain ⟨rid, name, len, day, sa, sn, sc, ta, tn, tc, na, nn, nc⟩ := d
  simp only at HRO HOF HCH hnn htn hK ⊢
  obtain ⟨W0, hW0, hz0, hB0, hK0⟩ := doc_cells w rid name len day sa ta na sn sc tn tc nn nc
  have HB := Lib.hid hB0
  have HK := Lib.hid hK0
  clear hB0 hK0
  have k5 : W0.cell? ⟨w.heap.size, 5, none⟩ = some (.slice ta tn tc) := HK.out W0 (Below.refl _ _) 5 _ rfl
  go_enter Tryz.func40, Tryz.ntmps40
  go_upto_region 1 with fail
  (try rw [hW0])
  clear hW0
  have HRR := Lib.hid (HRO.out W0 HB.out)
  go_wp2_with fail
  refine HRR.out.mono ?_
  rintro e w1 ⟨rfl, hb1⟩
  have HB1 := Lib.hid hb1
  clear hb1 k5 HRR HRO
  by_cases h0 : rt < 0
  · have c0 : decide (rt < 0) = true := decide_eq_true h0
    have HE := Lib.hid (hneg h0)
    clear hneg hpos h0
    go_wp2
    go_ret
    exact ⟨_, rfl, by rw [HE.out]; exact OwnI.nil _ _, HB.out.trans (HB1.out.mono HB.out.size)⟩
  · have c0 : decide (rt < 0) = false := decide_eq_false h0
    have hpo := hpos (by omega)
    rw [hpo] at HOF
    clear hneg hpos h0 hpo
    have k0 : w1.cell? ⟨w.heap.size, 0, none⟩ = some (.int .i64 rid) := HK.out w1 HB1.out 0 _ rfl
    have k1 : w1.cell? ⟨w.heap.size, 1, none⟩ = some (.string name) := HK.out w1 HB1.out 1 _ rfl
    have k2 : w1.cell? ⟨w.heap.size, 2, none⟩ = some (.int .i64 len) := HK.out w1 HB1.out 2 _ rfl
    have k3 : w1.cell? ⟨w.heap.size, 3, none⟩ = some (.int .i64 day) := HK.out w1 HB1.out 3 _ rfl
    have k4 : w1.cell? ⟨w.heap.size, 4, none⟩ = some (.slice sa sn sc) := HK.out w1 HB1.out 4 _ rfl
    have k5 : w1.cell? ⟨w.heap.size, 5, none⟩ = some (.slice ta tn tc) := HK.out w1 HB1.out 5 _ rfl
    have k6 : w1.cell? ⟨w.heap.size, 6, none⟩ = some (.slice na nn nc) := HK.out w1 HB1.out 6 _ rfl
    have HOO := Lib.hid (HOF.out w1 (HB.out.trans (HB1.out.mono HB.out.size)))
    go_wp2_with fail
    refine HOO.out.mono ?_
    rintro e w2 ⟨v, rfl, hO, hb2⟩
    have HO7 := Lib.hid hO
    have HBA : Hid (Below W0.heap.size W0 w2) := HB1.out.trans (hb2.mono HB1.out.size)
    obtain ⟨A7, c7, hv7, h7a, h7b, h7r⟩ := OwnI.form HO7.out
    subst hv7
    have HIR := Lib.hid h7r
    clear hO hb2 h7a h7b h7r HOO HOF k0 k1 k2 k3 k4 k5 k6 c0 HO7
    obtain ⟨w0, hw0⟩ : ∃ w0, w2 = w0 := ⟨_, rfl⟩
    rw [hw0] at HBA HIR ⊢
    clear hw0 HB1
    go_wp2_with fail
    go_loopw [7, 8, 19] (fun v7 v8 v19 wr => ∃ i : Nat, i ≤ ids.length ∧ v19 = .int .i64 i ∧ Hid (OwnI wr w0.heap.size v7 ((ids.take i).filter fun x => decide (id ∈ chainL l x K))) ∧ Hid (Below w0.heap.size w0 wr)) (fun _ _ v19 _ => ids.length - (intOf v19).toNat)
    case atStart => exact ⟨0, Nat.zero_le _, rfl, OwnI.nil _ _, Below.refl _ _⟩
    case round =>
      obtain ⟨i, hi, rfl, HO, HB2⟩ := hrel
      obtain ⟨w2, hw2⟩ : ∃ w2, wr = w2 := ⟨_, rfl⟩
      rw [hw2] at HO HB2 ⊢
      clear hw2
      have HB12 : Hid (Below W0.heap.size W0 w2) := HBA.out.trans (HB2.out.mono HBA.out.size)
      by_cases hlt : i < ids.length
      · have hiz : (i : Int) < (ids.length : Int) := by omega
        have hiA : (0 : Int) ≤ (i : Int) := by omega
        obtain ⟨bd, x, hA, hbb, hidx, hc⟩ := HIR.out.at_ hlt
        subst hA
        have HCX : Hid (∀ W, Below w2.heap.size w2 W → W.cell? (bd.add i) = some (.int .i64 x)) := fun W hW => ((HB2.out.trans (hW.mono HB2.out.size)).cell (by rw [block_of_add]; exact hbb)).trans hc
        have HLT := Lib.hid hlt
        have HNX := Lib.hid (filter_next (p := fun x => decide (id ∈ chainL l x K)) hidx)
        have hpt : ((ids.take i).filter fun x => decide (id ∈ chainL l x K)).length ≤ 1000000 := by
          have h1 := List.length_filter_le (fun x => decide (id ∈ chainL l x K)) (ids.take i)
          rw [List.length_take] at h1
          omega
        have HCC := Lib.hid fun W (hW : Below w2.heap.size w2 W) => HCH.out W (HB.out.trans ((HB12.out.trans (hW.mono HB12.out.size)).mono HB.out.size)) x
        obtain ⟨ll, hll⟩ : ∃ ll, ((ids.take i).filter fun x => decide (id ∈ chainL l x K)) = ll := ⟨_, rfl⟩
        rw [hll] at HNX hpt HO
        have hcl := HCL.out x
        obtain ⟨ch, hch⟩ : ∃ ch, chainL l x K = ch := ⟨_, rfl⟩
        have HNX2 : Hid ((ids.take (i + 1)).filter (fun x => decide (id ∈ chainL l x K)) = ll ++ if decide (id ∈ ch) = true then [x] else []) := by rw [← hch]; exact HNX.out
        rw [hch] at HCC hcl
        have hsz := HB2.out.size
        obtain ⟨bb, hbb2⟩ : ∃ bb, decide (id ∈ ch) = bb := ⟨_, rfl⟩
        have HBB := Lib.hid hbb2
        rw [hbb2] at HNX2
        clear hc hidx hll HNX hch hbb2
        go_upto_region 9 with fail
        refine wp_region_told [Told.is (.agg #[.int .i64 rid, .string name, .int .i64 len, .int .i64 day, .slice sa sn sc, .slice ta tn tc, .slice na nn nc]), Told.is (.slice (some bd) ids.length c7), Told.is (.int .i64 (i : Int)), Told.is (.pointer (some (bd.add i))), Told.is (.int .i64 x), Told.such (fun v W => OwnI W w2.heap.size v ch) (fun v W W' h hb => h.on hb), Told.is (.int .i64 id), Told.is (.bool bb)] (by kernel_rfl) (by kernel_rfl) ?_ ?_
        · refine And.intro (fun wq vals hB hd K hK => ?_) ?_
          · clear hd
            simp only [putAll, Act.put, List.setIfInBounds_toArray, List.set_cons_zero, List.set_cons_succ] at hK ⊢
            obtain ⟨ve, hve⟩ : ∃ f : Nat → Value, f = vals := ⟨_, rfl⟩
            rw [← hve] at hK  ⊢
            clear hve
            refine gwp_none rfl ?_
            have k0 : wq.cell? ⟨w.heap.size, 0, none⟩ = some (.int .i64 rid) := HK.out wq (HB12.out.trans (hB.mono HB12.out.size)) 0 _ rfl
            have k1 : wq.cell? ⟨w.heap.size, 1, none⟩ = some (.string name) := HK.out wq (HB12.out.trans (hB.mono HB12.out.size)) 1 _ rfl
            have k2 : wq.cell? ⟨w.heap.size, 2, none⟩ = some (.int .i64 len) := HK.out wq (HB12.out.trans (hB.mono HB12.out.size)) 2 _ rfl
            have k3 : wq.cell? ⟨w.heap.size, 3, none⟩ = some (.int .i64 day) := HK.out wq (HB12.out.trans (hB.mono HB12.out.size)) 3 _ rfl
            have k4 : wq.cell? ⟨w.heap.size, 4, none⟩ = some (.slice sa sn sc) := HK.out wq (HB12.out.trans (hB.mono HB12.out.size)) 4 _ rfl
            have k5 : wq.cell? ⟨w.heap.size, 5, none⟩ = some (.slice ta tn tc) := HK.out wq (HB12.out.trans (hB.mono HB12.out.size)) 5 _ rfl
            have k6 : wq.cell? ⟨w.heap.size, 6, none⟩ = some (.slice na nn nc) := HK.out wq (HB12.out.trans (hB.mono HB12.out.size)) 6 _ rfl
            go_simp
            exact hK _ _ rfl (Below.refl _ _)
          refine And.intro (fun wq vals hB hd K hK => ?_) ?_
          · clear hd
            simp only [putAll, Act.put, List.setIfInBounds_toArray, List.set_cons_zero, List.set_cons_succ] at hK ⊢
            obtain ⟨ve, hve⟩ : ∃ f : Nat → Value, f = vals := ⟨_, rfl⟩
            rw [← hve] at hK  ⊢
            clear hve
            refine gwp_none rfl ?_
            go_simp
            exact hK _ _ rfl (Below.refl _ _)
          refine And.intro (fun wq vals hB hd K hK => ?_) ?_
          · clear hd
            simp only [putAll, Act.put, List.setIfInBounds_toArray, List.set_cons_zero, List.set_cons_succ] at hK ⊢
            obtain ⟨ve, hve⟩ : ∃ f : Nat → Value, f = vals := ⟨_, rfl⟩
            rw [← hve] at hK  ⊢
            clear hve
            refine gwp_none rfl ?_
            go_simp
            exact hK _ _ rfl (Below.refl _ _)
          refine And.intro (fun wq vals hB hd K hK => ?_) ?_
          · have e1 : vals 1 = .slice (some bd) ids.length c7 := told_at (hd 1 rfl) rfl
            have e2 : vals 2 = .int .i64 (i : Int) := told_at (hd 2 rfl) rfl
            clear hd
            simp only [putAll, Act.put, List.setIfInBounds_toArray, List.set_cons_zero, List.set_cons_succ] at hK ⊢
            simp only [e1, e2] at hK ⊢
            obtain ⟨ve, hve⟩ : ∃ f : Nat → Value, f = vals := ⟨_, rfl⟩
            rw [← hve] at hK  ⊢
            clear e1 e2 hve
            refine gwp_none rfl ?_
            go_simp
            exact hK _ _ rfl (Below.refl _ _)
          refine And.intro (fun wq vals hB hd K hK => ?_) ?_
          · have e3 : vals 3 = .pointer (some (bd.add i)) := told_at (hd 3 rfl) rfl
            clear hd
            simp only [putAll, Act.put, List.setIfInBounds_toArray, List.set_cons_zero, List.set_cons_succ] at hK ⊢
            simp only [e3] at hK ⊢
            obtain ⟨ve, hve⟩ : ∃ f : Nat → Value, f = vals := ⟨_, rfl⟩
            rw [← hve] at hK  ⊢
            clear e3 hve
            refine gwp_none rfl ?_
            have hcq : wq.cell? (bd.add i) = some (.int .i64 x) := HCX.out wq hB
            go_simp
            exact hK _ _ rfl (Below.refl _ _)
          refine And.intro (fun wq vals hB hd K hK => ?_) ?_
          · have e0 : vals 0 = .agg #[.int .i64 rid, .string name, .int .i64 len, .int .i64 day, .slice sa sn sc, .slice ta tn tc, .slice na nn nc] := told_at (hd 0 rfl) rfl
            have e4 : vals 4 = .int .i64 x := told_at (hd 4 rfl) rfl
            clear hd
            simp only [putAll, Act.put, List.setIfInBounds_toArray, List.set_cons_zero, List.set_cons_succ] at hK ⊢
            simp only [e0, e4] at hK ⊢
            obtain ⟨ve, hve⟩ : ∃ f : Nat → Value, f = vals := ⟨_, rfl⟩
            rw [← hve] at hK  ⊢
            clear e0 e4 hve
            refine gwp_none rfl ?_
            go_simp
            refine (HCC.out wq hB).mono ?_
            rintro e w3 ⟨v, rfl, hO, hb⟩
            exact hK _ _ (own_base hO hB.size) hb
          refine And.intro (fun wq vals hB hd K hK => ?_) ?_
          · clear hd
            simp only [putAll, Act.put, List.setIfInBounds_toArray, List.set_cons_zero, List.set_cons_succ] at hK ⊢
            obtain ⟨ve, hve⟩ : ∃ f : Nat → Value, f = vals := ⟨_, rfl⟩
            rw [← hve] at hK  ⊢
            clear hve
            refine gwp_none rfl ?_
            go_simp
            exact hK _ _ rfl (Below.refl _ _)
          refine And.intro (fun wq vals hB hd K hK => ?_) ?_
          · have p5 := told_at (t := Told.such (fun v W => OwnI W w2.heap.size v ch) (fun v W W' h hb => h.on hb)) (hd 5 rfl) rfl
            simp only [Told.holds] at p5
            have e6 : vals 6 = .int .i64 id := told_at (hd 6 rfl) rfl
            clear hd
            obtain ⟨x5, hx5⟩ : ∃ x, vals 5 = x := ⟨_, rfl⟩
            rw [hx5] at p5
            simp only [putAll, Act.put, List.setIfInBounds_toArray, List.set_cons_zero, List.set_cons_succ] at hK ⊢
            simp only [e6, hx5] at hK ⊢
            obtain ⟨ve, hve⟩ : ∃ f : Nat → Value, f = vals := ⟨_, rfl⟩
            rw [← hve] at hK  ⊢
            clear e6 hx5 hve
            refine gwp_none rfl ?_
            obtain ⟨A3, c3, rfl, h3a, h3b, h3r⟩ := OwnI.form p5
            go_simp
            refine (refHas_any A3 ch.length c3 ch id wq h3r (by omega)).mono ?_
            rintro e w3 ⟨rfl, rfl⟩
            rw [HBB.out]
            exact hK _ _ rfl (Below.refl _ _)
          exact trivial
        · intro wq vals hB hd
          have e7 : vals 7 = .bool bb := told_at (hd 7 (by decide)) rfl
          clear hd
          simp only [putAll, Act.put, List.setIfInBounds_toArray, List.set_cons_zero, List.set_cons_succ]
          simp only [e7]
          obtain ⟨ve, hve⟩ : ∃ f : Nat → Value, f = vals := ⟨_, rfl⟩
          rw [← hve]
          clear e7 hve
          have HB3 : Hid (Below w0.heap.size w0 wq) := HB2.out.trans (hB.mono hsz)
          have HOO := Lib.hid (HO.out.on hB)
          have hcw : wq.cell? (bd.add i) = some (.int .i64 x) := HCX.out wq hB
          have hs3 := HB3.out.size
          clear hB HO HBB
          cases bb with
          | false =>
            go_wp2
            go_roundw
            case rel => exact ⟨i + 1, HLT.out, by go_num, (by rw [HNX2.out, if_neg (by simp), List.append_nil]; exact HOO), HB3⟩
            case measure => have := HLT.out; simp [intOf]; omega
          | true =>
            go_wp2_with (at_builtin; refine wpList_app1 rfl (.tmp 30) (.tmp 35) 32 rfl w0.heap.size 3 8 (.int .i64 0) info_int rfl Tryz.underlying32 rfl HOO.out rfl rfl (by omega) (by omega) hs3 ?_; rintro v5 w4 hown5 hb5 hs5 hk5; clear hk5)
            have HO4 : Hid (OwnI w4 w0.heap.size v5 (ll ++ [x])) := own_i hown5
            have HB4 : Hid (Below w0.heap.size w0 w4) := HB3.out.trans hb5
            clear hown5 hb5
            go_wp2
            go_roundw
            case rel => exact ⟨i + 1, HLT.out, by go_num, (by rw [HNX2.out, if_pos (by simp)]; exact HO4), HB4⟩
            case measure => have := HLT.out; simp [intOf]; omega
      · obtain rfl : i = ids.length := by omega
        have hiz : ¬ (ids.length : Int) < (ids.length : Int) := by omega
        rw [List.take_length] at HO
        go_wp2
        go_ret
        exact ⟨_, rfl, own_base HO.out (by have := HBA.out.size; have := HB.out.size; omega), HB.out.trans (HB12.out.mono HB.out.size)⟩
end Go.Proofs.YthcabnfcgjnlnaaGreatDoor
/-
  REGIONS THAT DRAW THEIR ORDER, where an operation says something of a later one that binds nothing: the law of XRegionEach again.
-/
namespace Go.Proofs.YthcabnfcgjnlnaaGreatDoor
open Go Go.RowKit
set_option linter.unusedVariables false
variable {P : Program} {ops : Array Oper} {Q : Exit → Act → World → Prop}

theorem wp_region_toldV {id : Nat} {a0 : Act} {w0 : World} {l : List Oper} (Vs : List Told) (hm : P.follows .mixedOrders = true) (hb : ((backW l.toArray && (distB l.toArray && dstB l.toArray a0.tmps.size)) && guardB l) = true)
    (hstep : StepsAt P Q l a0 w0 Vs 0 l)
    (hQ : ∀ (w : World) (vals : Nat → Value), Below w0.heap.size w0 w → (∀ j, j < l.length → toldAt Vs j (vals j) w) → Q .normal (putAll l 0 vals a0) w) : (Code.region id l.toArray true).wp P Q a0 w0 := by
  rw [Bool.and_eq_true] at hb
  have hb' := hb.1
  rw [Bool.and_eq_true, Bool.and_eq_true] at hb'
  refine wp_region_genW (ops := l.toArray) hm (fun w => Below w0.heap.size w0 w) (toldAt Vs) hb.1 (Below.refl _ _).drew (fun i o w vals ho hC hd => ?_) (fun w vals hC h => hQ w vals hC fun j hj => h j (by simpa using hj))
  have hol : l[i]? = some o := by simpa using ho
  refine wpOp_of_gwp hb'.2.1 hb'.2.2 hol hb.2 ?_
  exact stepsAt_get hstep hol w vals hC (fun j hj => hd j (by rw [← Array.any_toList]; exact hj)) _ fun v w' h1 h2 => ⟨v, rfl, by rw [Nat.zero_add] at h1; exact h1, hC.trans (h2.mono hC.size), fun j u _ hu => toldAt_kept Vs j u w w' hu h2⟩
end Go.Proofs.YthcabnfcgjnlnaaGreatDoor
