import Derived.Test.YtacfeabdeaikhaaDoorGCols
import Derived.Deep.LoopGhost
import Derived.Test.YtacfeabdeaikhaaDoorGPlain
/-
  ROWS OF PAIRS OF INTEGERS ([][2]int): read, and owned by the call.
-/
namespace Go.Proofs.YtacfeabdeaikhaaDoor
open Go.RowKit Ru Lay
set_option linter.unusedVariables false
set_option linter.unusedSimpArgs false

def pairV (l : List (Nat × Nat)) : List Value := l.flatMap fun p => [Value.int .i64 (p.1 : Int), Value.int .i64 (p.2 : Int)]
theorem pairV_app (l : List (Nat × Nat)) (p : Nat × Nat) : pairV (l ++ [p]) = pairV l ++ [.int .i64 (p.1 : Int), .int .i64 (p.2 : Int)] := by unfold pairV; simp
theorem pairV_len (l : List (Nat × Nat)) : (pairV l).length = l.length * 2 := by
  induction l with
  | nil => rfl
  | cons p t ih =>
    show (List.length ([_, _] ++ pairV t)) = _
    rw [List.length_append, ih]
    simp
    omega
theorem pairV_at {l : List (Nat × Nat)} {k : Nat} {p : Nat × Nat} (h : l[k]? = some p) : (pairV l)[k * 2]? = some (.int .i64 (p.1 : Int)) ∧ (pairV l)[k * 2 + 1]? = some (.int .i64 (p.2 : Int)) := by
  induction l generalizing k with
  | nil => simp at h
  | cons q t ih =>
    cases k with
    | zero =>
      simp at h
      subst h
      exact ⟨rfl, rfl⟩
    | succ k =>
      rw [List.getElem?_cons_succ] at h
      obtain ⟨h1, h2⟩ := ih h
      have e : pairV (q :: t) = .int .i64 (q.1 : Int) :: .int .i64 (q.2 : Int) :: pairV t := rfl
      rw [e, show (k + 1) * 2 = k * 2 + 1 + 1 by omega]
      exact ⟨h1, h2⟩
theorem info_pair : (Tryd.prog.info? 40).map (fun i => (i.zero, i.size, i.bytes)) = some (some (.agg #[.int .i64 0, .int .i64 0]), 2, 16) := by kernel_rfl
/-- A row of pairs of the call's own. -/
def OwnG (w : World) (base : Nat) (v : Value) (l : List (Nat × Nat)) : Prop := w.ownsRow base 40 2 v l.length (pairV l)
theorem OwnG.nil (w : World) (base : Nat) : OwnG w base (.slice none 0 0) [] := World.ownsRow_nil _ _ _ _
theorem OwnG.on {w w' : World} {base : Nat} {v : Value} {l : List (Nat × Nat)} (h : OwnG w base v l) (hb : Below w.heap.size w w') : OwnG w' base v l := own_below h hb
/-- A row of pairs, as it is read. -/
def GR (w : World) (B : Nat) (A : Option Addr) (n : Nat) (l : List (Nat × Nat)) : Prop := Reads w B 2 A n (pairV l) ∧ l.length = n
theorem GR.on {w w' : World} {n : Nat} {A : Option Addr} {l : List (Nat × Nat)} (h : GR w w.heap.size A n l) (hb : Below w.heap.size w w') : GR w' w'.heap.size A n l := ⟨Reads.on h.1 hb, h.2⟩
theorem field_at {w : World} {p : Addr} {i : Nat} {v : Value} (hi : 0 < i) (h : w.cell? (p.add i) = some v) : w.cell? ⟨p.block, p.off + i, none⟩ = some v := by
  unfold Addr.add at h
  rw [if_neg (by omega)] at h
  exact h
theorem GR.at_ {w : World} {B n k : Nat} {A : Option Addr} {l : List (Nat × Nat)} (h : GR w B A n l) (hk : k < n) :
    ∃ ad p, A = some ad ∧ ad.block < B ∧ l[k]? = some p ∧ w.cell? (ad.add (k * 2)) = some (.int .i64 (p.1 : Int)) ∧ w.cell? ⟨(ad.add (k * 2)).block, (ad.add (k * 2)).off + 1, none⟩ = some (.int .i64 (p.2 : Int)) := by
  obtain ⟨ad, e, hb, hc⟩ := h.1.2 (by omega)
  have hlt : k < l.length := by have := h.2; omega
  have hp : l[k]? = some l[k] := List.getElem?_eq_getElem hlt
  obtain ⟨h1, h2⟩ := pairV_at hp
  refine ⟨ad, l[k], e, hb, hp, hc _ _ h1, field_at (by omega) ?_⟩
  rw [add_of_add]
  exact hc _ _ h2
theorem OwnG.form {w : World} {base : Nat} {v : Value} {l : List (Nat × Nat)} (h : OwnG w base v l) : ∃ A c, v = .slice A l.length c ∧ GR w w.heap.size A l.length l := by
  rcases h.2 with ⟨rfl, h0⟩ | ⟨g, cap, cur, rfl, hg, hh, hn, hm, hs, ht⟩
  · rw [h0]
    exact ⟨none, 0, rfl, ⟨by rw [pairV_len, h0], fun hh => by omega⟩, h0⟩
  · exact ⟨some ⟨g, 0, none⟩, cap, rfl, ⟨h.1, fun _ => ⟨_, rfl, (h.lt g rfl).2, h.cells (g := g) rfl⟩⟩, rfl⟩
theorem OwnG.last {w : World} {base : Nat} {v : Value} {l : List (Nat × Nat)} {p : Nat × Nat} (h : OwnG w base v (l ++ [p])) :
    ∃ g cap, v = .slice (some ⟨g, 0, none⟩) (l.length + 1) cap ∧ base ≤ g ∧ g < w.heap.size ∧ w.frozen? ⟨g, l.length * 2 + 1, none⟩ = false ∧ w.cell? ⟨g, l.length * 2 + 1, none⟩ = some (.int .i64 (p.2 : Int)) ∧ ∀ x : Nat,
      OwnG (w.setCell ⟨g, l.length * 2 + 1, none⟩ (.int .i64 (x : Int))) base v (l ++ [(p.1, x)]) ∧ Below base w (w.setCell ⟨g, l.length * 2 + 1, none⟩ (.int .i64 (x : Int))) := by
  have h0 := h
  unfold OwnG at h0
  rw [List.length_append, List.length_singleton] at h0
  obtain ⟨g, cap, rfl, h1, h2⟩ := World.ownsRow.form h0 (by omega)
  refine ⟨g, cap, rfl, h1, h2, World.ownsRow.frozenAt h0 _, ?_, fun x => ?_⟩
  · rw [World.ownsRow.cellAt h0 _ (by omega)]
    exact (pairV_at (k := l.length) (p := p) (by simp)).2
  · have hs := World.ownsRow.stored h0 (l.length * 2 + 1) (.int .i64 (x : Int))
    have e1 : (pairV (l ++ [p])).set (l.length * 2 + 1) (.int .i64 (x : Int)) = pairV (l ++ [(p.1, x)]) := by
      rw [pairV_app, pairV_app, List.set_append_right _ _ (by rw [pairV_len]; omega), pairV_len]
      simp
    rw [e1] at hs
    refine ⟨?_, (Below.refl _ _).grown hs.2 (Nat.le_of_lt (Nat.lt_of_le_of_lt h1 h2)) fun k hk => by cases hk; exact h1⟩
    show World.ownsRow _ _ _ _ _ _ _
    rw [List.length_append, List.length_singleton]
    exact hs.1
/-- 'append(s, [2]int{x, y})' onto a row of the call's own: the pair has just been laid in a block of its own. -/
theorem wpList_app2 {P : Program} {ops : Array Oper} {rest : List Oper} {o : Oper} {a : Act} {Q : Exit → Act → World → Prop} {w0 : World} {x y : Value} (hgd : o.guard = none) (s yy : Operand) (t : TypeId)
    (ho : o.op = .call { callee := .builtin .append, args := #[s, yy], argTypes := #[t, t] })
    (base : Nat) (e : TypeId) (bytes : Nat) (z : Value) (hinfo : (P.info? e).map (fun i => (i.zero, i.size, i.bytes)) = some (some z, 2, bytes)) (hzc : z.cells.size = 2) (ht : P.underlying t = some (.slice e))
    {v : Value} {n : Nat} {xs : List Value} (hs : a.eval s = v) (hown : w0.ownsRow base e 2 v n xs) (hy : a.eval yy = .slice (some ⟨w0.heap.size, 0, none⟩) 1 1) (h1 : x.oneCell' = true) (h2 : y.oneCell' = true)
    (h63 : n + 1 ≤ 9223372036854775807) (hbytes : (n + 1) * bytes ≤ 140737488355328) (hbase : base ≤ w0.heap.size)
    (h : ∀ v' w', w'.ownsRow base e 2 v' (n + 1) (xs ++ [x, y]) → Below base w0 w' → wpList P ops Q rest (a.put o.dst v') w') :
    wpList P ops Q (o :: rest) a (w0.alloc (.cells #[x, y] e)) := by
  obtain ⟨i0, hi, hz0, hz1, hz2⟩ := info_parts hinfo
  refine wpList_append_own_at _ hgd s yy t ho base e i0 z 2 bytes ht hi hz0 hz1 hz2 hzc (by decide) v n xs hs (hown.alloc _) ⟨w0.heap.size, 0, none⟩ 1 1 [x, y] hy rfl ?_ (fun u hu => by simp at hu; rcases hu with rfl | rfl <;> assumption) (by unfold maxLen; omega) hbytes (by simp; omega) ?_
  · intro j u hu
    have e1 : (⟨w0.heap.size, 0, none⟩ : Addr).add j = ⟨w0.heap.size, j, none⟩ := by
      unfold Addr.add
      split
      · rename_i h; simp [h]
      · simp
    rw [e1, World.cell?_alloc_at _ _ _ _ rfl]
    simpa using hu
  · intro v' w' hown' hgrow _ hat
    exact h v' w' hown' (below_append (Below.refl base w0) hbase hown (Nat.le_refl _) hgrow)
end Go.Proofs.YtacfeabdeaikhaaDoor

/-
  Groups, and that of the reference.
-/
namespace Go.Proofs.YtacfeabdeaikhaaDoor
open Go.RowKit Ru Lay
set_option linter.unusedVariables false
set_option linter.unusedSimpArgs false

theorem getD_at {α : Type} {l : List α} {k : Nat} {x d : α} (h : l[k]? = some x) : l.getD k d = x := by rw [List.getD, h]; rfl
set_option maxHeartbeats 4000000 in
set_option maxRecDepth 100000 in
theorem groups_any (A : Option Addr) (n c : Nat) (l : List Int) (W : Int) (w : World) (h : IR w w.heap.size A n l) (hn : n ≤ 100000) (hl : ∀ x ∈ l, x ≤ 9223372036854775807) (hW : W ≤ 9223372036854775807) :
    Calls Tryd.prog 22 #[.slice A n c, .int .i64 W] w fun e w' => ∃ v, e = .returned v ∧ OwnG w' w.heap.size v (groups l W) ∧ Below w.heap.size w w' := by
  have HL := Lib.hid h
  have HLN := Lib.hid h.len
  have HRG := Lib.hid (gst_rng (c := l) (W := W) (M := 9223372036854775807) hl hW (by omega))
  clear h hl
  go_enter Tryd.func22, Tryd.ntmps22
  go_wp2_with fail
  go_loopw [5, 6] (fun v5 v6 wr => ∃ f : Nat, f ≤ n ∧ v6 = .int .i64 f ∧ Hid (OwnG wr w.heap.size v5 (gst l W f).1) ∧ Hid (f < n → ¬ Fit l W f) ∧ Hid (Below w.heap.size w wr)) (fun _ v6 _ => n - (intOf v6).toNat)
  case atStart => exact ⟨0, Nat.zero_le _, rfl, OwnG.nil _ _, fun _ hf => Nat.lt_irrefl _ hf.1, Below.refl _ _⟩
  case round =>
    obtain ⟨f, hf, rfl, HO, HNF, HB⟩ := hrel
    obtain ⟨w0, hw0⟩ : ∃ w0, w0 = wr := ⟨_, rfl⟩
    rw [← hw0] at HO HB ⊢
    clear hw0
    by_cases hlt : f < n
    · have hfz : (f : Int) < (n : Int) := by omega
      have hfA : (0 : Int) ≤ (f : Int) := by omega
      obtain ⟨ad, x, rfl, hadb, hx, hcx⟩ := HL.out.at_ hlt
      have HC : Hid (∀ W', Below w.heap.size w W' → W'.cell? (ad.add f) = some (.int .i64 x)) := fun W' hb => (hb.cell (by rw [block_of_add]; exact hadb)).trans hcx
      have hcx0 := HC.out _ HB.out
      have HG1 : Hid (gst l W (f + 1) = ((gst l W f).1 ++ [(f, f + 1)], max x 0)) := by
        show _ = _
        rw [gst_no (HNF.out hlt), getD_at hx]
      have hgl := gst_len (c := l) (W := W) f
      obtain ⟨G, hG⟩ : ∃ G, (gst l W f).1 = G := ⟨_, rfl⟩
      rw [hG] at HO HG1 hgl
      clear hx hcx hG
      have hcq : ∀ p : BW w0, p.at_.cell? (ad.add f) = some (.int .i64 x) := fun p => HC.out _ (HB.out.trans (p.bel.mono HB.out.size))
      go_wp2_with fail
      refine wp_region_quiet_below (by kernel_rfl) (by kernel_rfl) ?_
      repeat (go_big_quiet_step (fail))
      refine wpQuiet_nil ?_
      intro w1 hw'
      have hb1 := bw_below hw'
      have HB2 : Hid (Below w.heap.size w w1) := HB.out.trans (hb1.mono HB.out.size)
      have HO2 : Hid (w1.ownsRow w.heap.size 40 2 _ G.length (pairV G)) := own_below HO.out hb1
      have hszw := HB2.out.size
      clear hcq hw' hb1 hcx0 HO HB
      go_wp2_with fail
      go_loop [7, 8] (fun v7 v8 => ∃ t : Nat, f < t ∧ t ≤ n ∧ v7 = .int .i64 t ∧ v8 = .int .i64 (gst l W t).2 ∧ Hid ((gst l W t).1 = G ++ [(f, t)])) (fun v7 _ => n - (intOf v7).toNat)
      case atStart => exact ⟨f + 1, by omega, by omega, by go_num, by rw [HG1.out], by show _ = _; rw [HG1.out]⟩
      case round =>
        obtain ⟨t, ht1, ht2, rfl, rfl, HG⟩ := hrel
        obtain ⟨hu0, hu1⟩ := HRG.out t
        obtain ⟨u, hu⟩ : ∃ u, (gst l W t).2 = u := ⟨_, rfl⟩
        have HU := Lib.hid hu
        rw [hu] at hu0 hu1 ⊢
        clear hu
        by_cases htn : t < n
        · have htz : (t : Int) < (n : Int) := by omega
          have htA : (0 : Int) ≤ (t : Int) := by omega
          obtain ⟨ad', y, e', hyb, hy, hcy⟩ := HL.out.at_ htn
          cases e'
          have hcy1 : w1.cell? (ad.add t) = some (.int .i64 y) := (HB2.out.cell (by rw [block_of_add]; exact hyb)).trans hcy
          have HY : Hid (l.getD t 0 = y) := getD_at hy
          clear hy hcy
          by_cases hf1 : u ≤ W
          · have hd1 : decide (u ≤ W) = true := decide_eq_true hf1
            by_cases hf2 : max y 0 ≤ W - u - 1
            · have hd2 : decide (max y 0 ≤ W - u - 1) = true := decide_eq_true hf2
              have hmx : 0 ≤ max y 0 := Int.le_max_right _ _
              have HFIT : Hid (Fit l W t) := ⟨by omega, by rw [HU.out]; exact hf1, by rw [HY.out, HU.out]; exact hf2⟩
              have HGN : Hid (gst l W (t + 1) = (G ++ [(f, t + 1)], u + 1 + max y 0)) := by show _ = _; rw [gst_yes HFIT.out HG.out, HU.out, HY.out]
              go_wp2
              go_round
              case rel => exact ⟨t + 1, by omega, by omega, by go_num, by rw [HGN.out]; exact congrArg (Value.int .i64) (by omega), by show _ = _; rw [HGN.out]⟩
              case measure => simp [intOf]; omega
            · have hd2 : decide (max y 0 ≤ W - u - 1) = false := decide_eq_false hf2
              have HFT : Hid (t < n → ¬ Fit l W t) := fun _ hf => hf2 (by have h3 := hf.2.2; rw [HY.out, HU.out] at h3; exact h3)
              go_wp2_with (at_builtin; refine wpList_app2 rfl (.tmp 51) (.tmp 55) 32 rfl w.heap.size 40 16 _ info_pair rfl Tryd.underlying32 rfl HO2.out rfl rfl rfl (by omega) (by omega) hszw ?_; intro v7 w2 hown7 hb7)
              have HO3 : Hid (OwnG w2 w.heap.size v7 (gst l W t).1) := by
                show World.ownsRow _ _ _ _ _ _ _
                rw [HG.out, List.length_append, List.length_singleton, pairV_app]
                exact hown7
              have HB3 : Hid (Below w.heap.size w w2) := HB2.out.trans hb7
              clear hown7 hb7
              go_wp2
              go_roundw
              case rel => exact ⟨t, by omega, rfl, HO3, HFT, HB3⟩
              case measure => simp [intOf]; omega
          · have hd1 : decide (u ≤ W) = false := decide_eq_false hf1
            have HFT : Hid (t < n → ¬ Fit l W t) := fun _ hf => hf1 (by have h3 := hf.2.1; rw [HU.out] at h3; exact h3)
            go_wp2_with (at_builtin; refine wpList_app2 rfl (.tmp 51) (.tmp 55) 32 rfl w.heap.size 40 16 _ info_pair rfl Tryd.underlying32 rfl HO2.out rfl rfl rfl (by omega) (by omega) hszw ?_; intro v7 w2 hown7 hb7)
            have HO3 : Hid (OwnG w2 w.heap.size v7 (gst l W t).1) := by
              show World.ownsRow _ _ _ _ _ _ _
              rw [HG.out, List.length_append, List.length_singleton, pairV_app]
              exact hown7
            have HB3 : Hid (Below w.heap.size w w2) := HB2.out.trans hb7
            clear hown7 hb7
            go_wp2
            go_roundw
            case rel => exact ⟨t, by omega, rfl, HO3, HFT, HB3⟩
            case measure => simp [intOf]; omega
        · have htz : ¬ (t : Int) < (n : Int) := by omega
          have HFT : Hid (t < n → ¬ Fit l W t) := fun h => absurd h htn
          go_wp2_with (at_builtin; refine wpList_app2 rfl (.tmp 51) (.tmp 55) 32 rfl w.heap.size 40 16 _ info_pair rfl Tryd.underlying32 rfl HO2.out rfl rfl rfl (by omega) (by omega) hszw ?_; intro v7 w2 hown7 hb7)
          have HO3 : Hid (OwnG w2 w.heap.size v7 (gst l W t).1) := by
            show World.ownsRow _ _ _ _ _ _ _
            rw [HG.out, List.length_append, List.length_singleton, pairV_app]
            exact hown7
          have HB3 : Hid (Below w.heap.size w w2) := HB2.out.trans hb7
          clear hown7 hb7
          go_wp2
          go_roundw
          case rel => exact ⟨t, by omega, rfl, HO3, HFT, HB3⟩
          case measure => simp [intOf]; omega
    · obtain rfl : n = f := by omega
      have hfz : ¬ (n : Int) < (n : Int) := by omega
      have h0 := HO.out
      have h1 : (gst l W n).1 = groups l W := by unfold groups; rw [HLN.out]
      rw [h1] at h0
      have HO5 := Lib.hid h0
      clear h0 h1
      go_wp2
      go_ret
      exact ⟨_, rfl, HO5.out, HB.out⟩
set_option maxHeartbeats 4000000 in
set_option maxRecDepth 100000 in
theorem refGroups_any (A : Option Addr) (n c : Nat) (l : List Int) (W : Int) (w : World) (h : IR w w.heap.size A n l) (hn : n ≤ 100000) (hl : ∀ x ∈ l, x ≤ 9223372036854775807) (hW : W ≤ 9223372036854775807) :
    Calls Tryd.prog 23 #[.slice A n c, .int .i64 W] w fun e w' => ∃ v, e = .returned v ∧ OwnG w' w.heap.size v (groups l W) ∧ Below w.heap.size w w' := by
  have HL := Lib.hid h
  have HLN := Lib.hid h.len
  have HRG := Lib.hid (gst_rng (c := l) (W := W) (M := 9223372036854775807) hl hW (by omega))
  clear h hl
  go_enter Tryd.func23, Tryd.ntmps23
  go_wp2_with fail
  go_loopw [5, 6, 7] (fun v5 v6 v7 wr => ∃ i : Nat, i ≤ n ∧ v7 = .int .i64 i ∧ v6 = .int .i64 (gst l W i).2 ∧ Hid (OwnG wr w.heap.size v5 (gst l W i).1) ∧ Hid (Below w.heap.size w wr)) (fun _ _ v7 _ => n - (intOf v7).toNat)
  case atStart => exact ⟨0, Nat.zero_le _, rfl, rfl, OwnG.nil _ _, Below.refl _ _⟩
  case round =>
    obtain ⟨i, hi, rfl, rfl, HO, HB⟩ := hrel
    obtain ⟨w0, hw0⟩ : ∃ w0, w0 = wr := ⟨_, rfl⟩
    rw [← hw0] at HO HB ⊢
    clear hw0
    obtain ⟨hu0, hu1⟩ := HRG.out i
    obtain ⟨u, hu⟩ : ∃ u, (gst l W i).2 = u := ⟨_, rfl⟩
    have HU := Lib.hid hu
    rw [hu] at hu0 hu1 ⊢
    clear hu
    by_cases hlt : i < n
    · have hiz : (i : Int) < (n : Int) := by omega
      have hiA : (0 : Int) ≤ (i : Int) := by omega
      obtain ⟨ad, x, rfl, hadb, hx, hcx⟩ := HL.out.at_ hlt
      have hcx0 : w0.cell? (ad.add i) = some (.int .i64 x) := (HB.out.cell (by rw [block_of_add]; exact hadb)).trans hcx
      have HX : Hid (l.getD i 0 = x) := getD_at hx
      have hszw := HB.out.size
      have hgl := gst_len (c := l) (W := W) i
      have hmx : 0 ≤ max x 0 := Int.le_max_right _ _
      clear hx hcx
      by_cases hfit : Fit l W i
      · have h1 := hfit.1
        have h2 : u ≤ W := by have := hfit.2.1; rw [HU.out] at this; exact this
        have h3 : max x 0 ≤ W - u - 1 := by have := hfit.2.2; rw [HU.out, HX.out] at this; exact this
        obtain ⟨done, f, hG, hf⟩ := gst_last (c := l) (W := W) i h1
        have HGN : Hid (gst l W (i + 1) = (done ++ [(f, i + 1)], u + 1 + max x 0)) := by show _ = _; rw [gst_yes hfit hG, HU.out, HX.out]
        rw [hG] at HO hgl
        obtain ⟨g, cap, rfl, hg1, hgl2, hfz, hcl, hst⟩ := HO.out.last
        have HST := Lib.hid hst
        obtain ⟨k, hk⟩ : ∃ k, done.length = k := ⟨_, rfl⟩
        rw [hk] at hfz hcl HST
        rw [List.length_append, hk, List.length_singleton] at hgl
        obtain ⟨n1, hn1⟩ : ∃ n1, n1 = k + 1 := ⟨_, rfl⟩
        rw [← hn1] at HST
        rw [hk, ← hn1]
        have hd0 : (0 : Int) < (i : Int) := by omega
        have hd1 : decide (u ≤ W) = true := decide_eq_true h2
        have hd2 : decide (max x 0 ≤ W - u - 1) = true := decide_eq_true h3
        have hj1 : wrap64 ((n1 : Int) - 1) = (k : Int) := by unfold wrap64; omega
        have hj2 : (n1 : Int) - 1 = (k : Int) := by omega
        have hj3 : n1 - 1 = k := by omega
        have hj4 : ((n1 : Int) - 1).toNat = k := by omega
        have hjn : (k : Int) < (n1 : Int) := by omega
        have hjn' : k < n1 := by omega
        have hjA : (0 : Int) ≤ (k : Int) := by omega
        have eaddr : (⟨g, 0, none⟩ : Addr).add (k * 2) = ⟨g, k * 2, none⟩ := by
          unfold Addr.add
          split
          · rename_i h; simp [h]
          · simp
        have HK := Lib.hid hk
        clear hfit hG hst hk hn1
        have hs := HST.out (i + 1)
        rw [show ((i + 1 : Nat) : Int) = (i : Int) + 1 from by omega] at hs
        have HO3 := Lib.hid hs.1
        have HB3 := Lib.hid (HB.out.trans hs.2)
        clear hs HST
        go_wp2
        go_roundw
        case rel => exact ⟨i + 1, by omega, by go_num, by rw [HGN.out], by show OwnG _ _ _ _; rw [HGN.out]; exact HO3.out, HB3.out⟩
        case measure => simp [intOf]; omega
      · have HO2 : Hid (w0.ownsRow w.heap.size 40 2 _ (gst l W i).1.length (pairV (gst l W i).1)) := HO.out
        have HGN : Hid (gst l W (i + 1) = ((gst l W i).1 ++ [(i, i + 1)], max x 0)) := by show _ = _; rw [gst_no hfit, HX.out]
        obtain ⟨G, hG⟩ : ∃ G, (gst l W i).1 = G := ⟨_, rfl⟩
        rw [hG] at HO2 HGN hgl
        clear HO hG
        by_cases hi0 : 0 < i
        · have hd0 : (0 : Int) < (i : Int) := by omega
          by_cases hf1 : u ≤ W
          · have hd1 : decide (u ≤ W) = true := decide_eq_true hf1
            have hf2 : ¬ max x 0 ≤ W - u - 1 := fun h => hfit ⟨hi0, by rw [HU.out]; exact hf1, by rw [HX.out, HU.out]; exact h⟩
            have hd2 : decide (max x 0 ≤ W - u - 1) = false := decide_eq_false hf2
            clear hfit
            go_wp2_with (at_builtin; refine wpList_app2 rfl (.tmp 47) (.tmp 52) 32 rfl w.heap.size 40 16 _ info_pair rfl Tryd.underlying32 rfl HO2.out rfl rfl rfl (by omega) (by omega) hszw ?_; intro v7 w2 hown7 hb7)
            have HO3 : Hid (OwnG w2 w.heap.size v7 (gst l W (i + 1)).1) := by
              show World.ownsRow _ _ _ _ _ _ _
              rw [HGN.out, List.length_append, List.length_singleton, pairV_app]
              exact hown7
            have HB3 : Hid (Below w.heap.size w w2) := HB.out.trans hb7
            clear hown7 hb7
            go_wp2
            go_roundw
            case rel => exact ⟨i + 1, by omega, by go_num, by rw [HGN.out], HO3, HB3⟩
            case measure => simp [intOf]; omega
          · have hd1 : decide (u ≤ W) = false := decide_eq_false hf1
            clear hfit
            go_wp2_with (at_builtin; refine wpList_app2 rfl (.tmp 47) (.tmp 52) 32 rfl w.heap.size 40 16 _ info_pair rfl Tryd.underlying32 rfl HO2.out rfl rfl rfl (by omega) (by omega) hszw ?_; intro v7 w2 hown7 hb7)
            have HO3 : Hid (OwnG w2 w.heap.size v7 (gst l W (i + 1)).1) := by
              show World.ownsRow _ _ _ _ _ _ _
              rw [HGN.out, List.length_append, List.length_singleton, pairV_app]
              exact hown7
            have HB3 : Hid (Below w.heap.size w w2) := HB.out.trans hb7
            clear hown7 hb7
            go_wp2
            go_roundw
            case rel => exact ⟨i + 1, by omega, by go_num, by rw [HGN.out], HO3, HB3⟩
            case measure => simp [intOf]; omega
        · have HI0 : Hid (i = 0) := by show _ = _; omega
          have hd0 : ¬ (0 : Int) < (i : Int) := by omega
          clear hfit
          go_wp2_with (at_builtin; refine wpList_app2 rfl (.tmp 47) (.tmp 52) 32 rfl w.heap.size 40 16 _ info_pair rfl Tryd.underlying32 rfl HO2.out rfl rfl rfl (by omega) (by omega) hszw ?_; intro v7 w2 hown7 hb7)
          have HO3 : Hid (OwnG w2 w.heap.size v7 (gst l W (i + 1)).1) := by
            show World.ownsRow _ _ _ _ _ _ _
            rw [HGN.out, List.length_append, List.length_singleton, pairV_app]
            exact hown7
          have HB3 : Hid (Below w.heap.size w w2) := HB.out.trans hb7
          clear hown7 hb7
          go_wp2
          go_roundw
          case rel => exact ⟨i + 1, by omega, by go_num, by rw [HGN.out], HO3, HB3⟩
          case measure => simp [intOf]; omega
    · obtain rfl : n = i := by omega
      have hfz : ¬ (n : Int) < (n : Int) := by omega
      have h0 := HO.out
      have h1 : (gst l W n).1 = groups l W := by unfold groups; rw [HLN.out]
      rw [h1] at h0
      have HO5 := Lib.hid h0
      clear h0 h1
      go_wp2
      go_ret
      exact ⟨_, rfl, HO5.out, HB.out⟩
end Go.Proofs.YtacfeabdeaikhaaDoor
