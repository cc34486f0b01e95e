import Derived.Test.YthcabnfcgjnlnaaGreatDoorK17
/-
  grammar.Rows: the rows of an interlinear example.
-/
namespace Go.Proofs.YthcabnfcgjnlnaaGreatDoor
open Go.RowKit Ru Lay
attribute [local go_sem ↓] Go.wp_at_zero Go.wp_at_succ
set_option linter.unusedVariables false
set_option linter.unusedSimpArgs false

/-- What Rows gives back. -/
def RowsV (b : Bool) (L : List (List ByteArray)) (e : Ending) (w' : World) : Prop :=
  (b = false → e = .returned (.slice none 0 0)) ∧ (b = true → ∃ g n c, e = .returned (.slice (some ⟨g, 0, none⟩) n c) ∧ RowsC w' w'.heap.size (some ⟨g, 0, none⟩) n L ∧ n ≤ c ∧ c ≤ 9223372036854775807)
theorem rowsC_new (w : World) (e : TypeId) (vs : List Value) (c : Array Value) (hc : c.toList = vs) (Ls : List (List ByteArray)) (n : Nat) (hn : n = Ls.length) (hl : vs.length = Ls.length)
    (h : ∀ (i : Nat) (l : List ByteArray), Ls[i]? = some l → ∃ A' n' c', vs[i]? = some (Value.slice A' n' c') ∧ SR w w.heap.size A' n' l ∧ n' ≤ c' ∧ c' ≤ 9223372036854775807) :
    RowsC (w.alloc (.cells c e)) (w.alloc (.cells c e)).heap.size (some ⟨w.heap.size, 0, none⟩) n Ls := by
  subst hn
  have hb : Below w.heap.size w (w.alloc (.cells c e)) := (Below.refl _ _).alloc (Nat.le_refl _) _
  refine ⟨vs, ⟨by omega, fun _ => ⟨_, rfl, by simp, fun j u hu => ?_⟩⟩, rfl, fun i l hil => ?_⟩
  · rw [Addr.add_mid, Nat.zero_add, World.cell?_alloc_new, ← hu, ← hc]
    simp
  · obtain ⟨A', n', c', h1, h2, h3, h4⟩ := h i l hil
    exact ⟨A', n', c', h1, Reads.on h2 hb, h3, h4⟩
theorem rowsC_one (w : World) (s : ByteArray) (e e' : TypeId) : RowsC ((w.alloc (.cells #[.string s] e)).alloc (.cells #[.slice (some ⟨w.heap.size, 0, none⟩) 1 1] e')) ((w.alloc (.cells #[.string s] e)).alloc (.cells #[.slice (some ⟨w.heap.size, 0, none⟩) 1 1] e')).heap.size (some ⟨w.heap.size + 1, 0, none⟩) 1 [[s]] := by
  have hz : (w.alloc (.cells #[.string s] e)).heap.size = w.heap.size + 1 := by simp
  have h := rowsC_new (w.alloc (.cells #[.string s] e)) e' [.slice (some ⟨w.heap.size, 0, none⟩) 1 1] #[.slice (some ⟨w.heap.size, 0, none⟩) 1 1] rfl [[s]] 1 rfl rfl (fun i l hil => by
    match i, hil with
    | 0, hil => cases hil; exact ⟨_, 1, 1, rfl, sr_new w e [s] _ rfl 1 rfl, Nat.le_refl _, by omega⟩)
  rw [hz] at h
  exact h
set_option maxHeartbeats 8000000 in
set_option maxRecDepth 100000 in
theorem rowsP_any (d : Dv) (T : List Ti) (l : List Nt) (id : Int) (K : Nat) (w : World) (hT : TiersR w w.heap.size d.ta d.tn T) (hl : NotesR w w.heap.size d.na d.nn l) (hL : LightN T l) (hU : TierUp T) (hn : d.nn < 20) (htn : d.tn ≤ 1000000)
    (hend : ∀ x, curF l x K = none) (hK : K ≤ 1000000) (hz : TxtZ l) :
    Calls Tryz.prog 19 #[docV d, .int .i64 id] w fun e w' => RowsV (getN l id).isSome (rowsL T l id K) e w' ∧ Below w.heap.size w w' := by
  have HG := Lib.hid fun (W : World) (hW : Below w.heap.size w W) (i : Int) => get_any d l i W (hl.on hW) (by omega)
  have HWO := Lib.hid fun (W : World) (hW : Below w.heap.size w W) => words_any d T l id K W (hT.on hW) (hl.on hW) hL hU hn htn hend hK
  have HSH := Lib.hid fun (W : World) (hW : Below w.heap.size w W) (i : Int) => shown_any d T l i W (hT.on hW) (hl.on hW) hn htn
  have hNl := hl.len
  have hfz : ∀ i, SzS (formsL T l i) := fun i => ⟨by have := forms_len (T := T) (l := l) (id := i); omega, fun s hs => by have := forms_sz hz s hs; omega⟩
  have hgz : ∀ i, SzS (glossesL T l i) := fun i => ⟨by have := forms_len (T := T) (l := l) (id := i); rw [← glosses_len] at this; omega, fun s hs => by have := glosses_sz hz s hs; omega⟩
  have hwl : (wordsL T l id K).length ≤ 20 := by have := wordsL_len (T := T) (l := l) (id := id) (K := K); omega
  clear hT hl hL hU hend hNl
  unfold docV at HG HWO HSH
  unfold docV
  obtain ⟨rid, name, len, day, sa, sn, sc, ta, tn, tc, na, nn, nc⟩ := d
  simp only at HG HWO HSH hn htn ⊢
  unfold rowsL
  have htx0 : textN l id = ((getN l id).getD nt0).text := rfl
  rw [htx0]
  obtain ⟨bs0, hbs0⟩ : ∃ x, (getN l id).isSome = x := ⟨_, rfl⟩
  obtain ⟨y0, hy0⟩ : ∃ x, (getN l id).getD nt0 = x := ⟨_, rfl⟩
  obtain ⟨ws, hws⟩ : ∃ x, wordsL T l id K = x := ⟨_, rfl⟩
  rw [hbs0, hy0, hws]
  rw [hws] at HWO hwl
  have HGG := HG.out
  obtain ⟨W0, hW0, hz0, hB0, hK0⟩ := doc_cells w rid name len day sa ta na sn sc tn tc nn nc
  have HB := Lib.hid hB0
  have HK := Lib.hid hK0
  have HBW : Hid (∀ W, Below W0.heap.size W0 W → Below w.heap.size w W) := fun W hW => HB.out.trans (hW.mono HB.out.size)
  have HG0 := Lib.hid (HGG W0 HB.out id)
  unfold getV noteV at HG0
  rw [hbs0, hy0] at HG0
  have HFZ := Lib.hid hfz
  have HGZ := Lib.hid hgz
  clear hB0 hK0 HGG hbs0 hy0 hws htx0 hfz hgz
  go_enter Tryz.func19, Tryz.ntmps19
  go_upto_region 1 with fail
  (try rw [hW0])
  clear hW0
  have k0 : W0.cell? ⟨w.heap.size, 0, none⟩ = some (.int .i64 rid) := HK.out W0 (Below.refl _ _) 0 _ rfl
  have k1 : W0.cell? ⟨w.heap.size, 1, none⟩ = some (.string name) := HK.out W0 (Below.refl _ _) 1 _ rfl
  have k2 : W0.cell? ⟨w.heap.size, 2, none⟩ = some (.int .i64 len) := HK.out W0 (Below.refl _ _) 2 _ rfl
  have k3 : W0.cell? ⟨w.heap.size, 3, none⟩ = some (.int .i64 day) := HK.out W0 (Below.refl _ _) 3 _ rfl
  have k4 : W0.cell? ⟨w.heap.size, 4, none⟩ = some (.slice sa sn sc) := HK.out W0 (Below.refl _ _) 4 _ rfl
  have k5 : W0.cell? ⟨w.heap.size, 5, none⟩ = some (.slice ta tn tc) := HK.out W0 (Below.refl _ _) 5 _ rfl
  have k6 : W0.cell? ⟨w.heap.size, 6, none⟩ = some (.slice na nn nc) := HK.out W0 (Below.refl _ _) 6 _ rfl
  go_wp2_with fail
  refine HG0.out.mono ?_
  rintro e w1 ⟨rfl, hb1⟩
  obtain ⟨p0, hp0⟩ : ∃ p0, w1.heap.size = p0 := ⟨_, rfl⟩
  obtain ⟨W1, hW1⟩ : ∃ W1, w1.alloc (.cells #[.int .i64 y0.nid, .int .i64 y0.tier, .int .i64 y0.parent, .int .i64 y0.at1, .int .i64 y0.at2, .int .i64 y0.rank, .string y0.text] 58) = W1 := ⟨_, rfl⟩
  have hz1 : W1.heap.size = p0 + 1 := by rw [← hW1, ← hp0]; simp
  have HB1 : Hid (Below W0.heap.size W0 W1) := by rw [← hW1]; exact hb1.alloc hb1.size _
  have HY0 : Hid (∀ W, Below W1.heap.size W1 W → W.cell? ⟨p0, 6, none⟩ = some (.string y0.text)) := fun W hW => by
    rw [hW.cell (by show p0 < _; omega), ← hW1, ← hp0, World.cell?_alloc_new]; rfl
  clear hb1 k0 k1 k2 k3 k4 k5 k6 HG0
  go_upto_region 2 with fail
  (try rw [hW1])
  (try rw [hp0])
  clear hW1 hp0
  cases bs0 with
  | false =>
    go_wp2
    go_ret
    exact ⟨⟨fun _ => rfl, fun h => (by cases h)⟩, HBW.out _ HB1.out⟩
  | true =>
    have k0 : W1.cell? ⟨w.heap.size, 0, none⟩ = some (.int .i64 rid) := HK.out W1 HB1.out 0 _ rfl
    have k1 : W1.cell? ⟨w.heap.size, 1, none⟩ = some (.string name) := HK.out W1 HB1.out 1 _ rfl
    have k2 : W1.cell? ⟨w.heap.size, 2, none⟩ = some (.int .i64 len) := HK.out W1 HB1.out 2 _ rfl
    have k3 : W1.cell? ⟨w.heap.size, 3, none⟩ = some (.int .i64 day) := HK.out W1 HB1.out 3 _ rfl
    have k4 : W1.cell? ⟨w.heap.size, 4, none⟩ = some (.slice sa sn sc) := HK.out W1 HB1.out 4 _ rfl
    have k5 : W1.cell? ⟨w.heap.size, 5, none⟩ = some (.slice ta tn tc) := HK.out W1 HB1.out 5 _ rfl
    have k6 : W1.cell? ⟨w.heap.size, 6, none⟩ = some (.slice na nn nc) := HK.out W1 HB1.out 6 _ rfl
    have HWW := Lib.hid (HWO.out W1 (HBW.out _ HB1.out))
    go_wp2_with fail
    refine HWW.out.mono ?_
    rintro e w2 ⟨v2, rfl, hO2, hb2⟩
    obtain ⟨A2, c2, hv2, h2a, h2b, h2r⟩ := OwnI.form hO2
    subst hv2
    have HIR := Lib.hid h2r
    have HB12 := Lib.hid hb2
    have HB2 := Lib.hid (HB1.out.trans (hb2.mono HB1.out.size))
    have hz2 := hb2.size
    clear hb2 k0 k1 k2 k3 k4 k5 k6 HWW HWO hO2 h2a h2b h2r
    by_cases h0 : ws = []
    · subst h0
      have c6 := HY0.out w2 HB12.out
      clear HY0
      go_wp2
      go_ret
      have hb4 : Below w2.heap.size w2 (w2.alloc (.cells #[.string y0.text] 9)) := (Below.refl _ _).alloc (Nat.le_refl _) _
      refine ⟨⟨fun h => (by cases h), fun _ => ⟨w2.heap.size + 1, 1, 1, rfl, ?_, Nat.le_refl _, by omega⟩⟩, HBW.out _ (HB2.out.trans (((hb4.alloc hb4.size _)).mono HB2.out.size))⟩
      first
        | exact rowsC_one w2 y0.text _ _
        | (rw [if_pos rfl]; exact rowsC_one w2 y0.text _ _)
        | (rw [if_pos rfl, if_pos rfl]; exact rowsC_one w2 y0.text _ _)
    · have hne : 0 < ws.length := by
        cases ws with
        | nil => exact absurd rfl h0
        | cons a r => simp
      have hq : ((ws.length : Int) == 0) = false := beq_eq_false_iff_ne.2 (by omega)
      have hq2 : ¬ ((ws.length : Int) = 0) := by omega
      have hq3 : ¬ (ws.length = 0) := by omega
      have HWS := Lib.hid h0
      obtain ⟨wl, hwlq⟩ : ∃ x, ws.length = x := ⟨_, rfl⟩
      have HWL := Lib.hid hwlq
      rw [hwlq] at hwl hne hq hq2 hq3 HIR ⊢
      clear h0 hwlq
      obtain ⟨rb, hrb⟩ : ∃ rb, w2.heap.size = rb := ⟨_, rfl⟩
      obtain ⟨W3, hW3⟩ : ∃ W3, w2.alloc (.cells #[.slice none 0 0, .slice none 0 0, .slice none 0 0] 45) = W3 := ⟨_, rfl⟩
      have hmk : ∀ u : World, (Instr.makeSlice 41 (.int .i64 3) (.int .i64 3)).run Tryz.prog u = .ok (.slice (some ⟨u.heap.size, 0, none⟩) 3 3) (u.alloc (.cells #[.slice none 0 0, .slice none 0 0, .slice none 0 0] 45)) := fun _ => by kernel_rfl
      have HR3 : Hid (RowN W3 (rb + 1) rb [[], [], []]) := by rw [← hW3, ← hrb]; exact RowN.new w2 _ rfl
      have hb23 : Below w2.heap.size w2 W3 := by rw [← hW3]; exact (Below.refl _ _).alloc (Nat.le_refl _) _
      have HB23 : Hid (Below rb w2 W3) := by rw [← hrb]; exact hb23
      have hz3 : W3.heap.size = rb + 1 := by rw [← hW3, ← hrb]; simp
      go_upto_region 8 with fail
      (try rw [hW3])
      (try rw [hrb])
      clear hW3 hmk hb23
      rw [hrb] at hz2
      go_wp2_with fail
      go_loopw [9, 11, 12, 13, 14, 15, 16, 17, 39] (fun v9 v11 v12 v13 v14 v15 v16 v17 v39 wr => ∃ i : Nat, i ≤ wl ∧ v39 = .int .i64 i ∧ v9 = .bool (someB T l (ws.take i)) ∧ Hid (RowN wr (rb + 1) rb [row1 T l (ws.take i), row2 T l (ws.take i), row3 T l (ws.take i)]) ∧ Hid (Below rb w2 wr)) (fun _ _ _ _ _ _ _ _ v39 _ => wl - (intOf v39).toNat)
      case atStart => exact ⟨0, Nat.zero_le _, rfl, rfl, HR3.out, HB23.out⟩
      case round =>
        clear HR3 HB23 hz3
        obtain ⟨i, hi, rfl, rfl, HR, HB4⟩ := hrel
        obtain ⟨w4, hw4⟩ : ∃ w4, wr = w4 := ⟨_, rfl⟩
        rw [hw4] at HR HB4 ⊢
        clear hw4
        have HB24 : Hid (Below w2.heap.size w2 w4) := by rw [hrb]; exact HB4.out
        have HB04 : Hid (Below W0.heap.size W0 w4) := HB2.out.trans (HB24.out.mono HB2.out.size)
        obtain ⟨sm, hsm⟩ : ∃ x, someB T l (ws.take i) = x := ⟨_, rfl⟩
        rw [hsm]
        have hrl := HR.out.size
        by_cases hlt : i < wl
        · have hiz : (i : Int) < (wl : Int) := by omega
          have hiA : (0 : Int) ≤ (i : Int) := by omega
          obtain ⟨bd, x, hA, hbb, hidx, hc⟩ := HIR.out.at_ hlt
          subst hA
          have hcw : w4.cell? (bd.add i) = some (.int .i64 x) := (HB24.out.cell (by rw [block_of_add]; exact hbb)).trans hc
          have HLT := Lib.hid hlt
          have HN1 : Hid (row1 T l (ws.take (i + 1)) = row1 T l (ws.take i) ++ [textN l x]) := map_next _ hidx
          have HN2 : Hid (row2 T l (ws.take (i + 1)) = row2 T l (ws.take i) ++ [joinD (formsL T l x)]) := map_next _ hidx
          have HN3 : Hid (row3 T l (ws.take (i + 1)) = row3 T l (ws.take i) ++ [joinD (glossesL T l x)]) := map_next _ hidx
          have HSN : Hid (someB T l (ws.take (i + 1)) = (sm || decide (0 < (formsL T l x).length))) := by rw [← hsm]; exact someB_next hidx
          have hl1 : (row1 T l (ws.take i)).length ≤ 20 := by unfold row1; rw [List.length_map, List.length_take]; omega
          have hl2 : (row2 T l (ws.take i)).length ≤ 20 := by unfold row2; rw [List.length_map, List.length_take]; omega
          have hl3 : (row3 T l (ws.take i)).length ≤ 20 := by unfold row3; rw [List.length_map, List.length_take]; omega
          obtain ⟨r1, hr1⟩ : ∃ x, row1 T l (ws.take i) = x := ⟨_, rfl⟩
          obtain ⟨r2, hr2⟩ : ∃ x, row2 T l (ws.take i) = x := ⟨_, rfl⟩
          obtain ⟨r3, hr3⟩ : ∃ x, row3 T l (ws.take i) = x := ⟨_, rfl⟩
          rw [hr1] at HN1 HR hl1
          rw [hr2] at HN2 HR hl2
          rw [hr3] at HN3 HR hl3
          have HGG := Lib.hid (HG.out w4 (HBW.out _ HB04.out) x)
          unfold getV noteV at HGG
          have htx : textN l x = ((getN l x).getD nt0).text := rfl
          rw [htx] at HN1
          obtain ⟨y, hy⟩ : ∃ y, (getN l x).getD nt0 = y := ⟨_, rfl⟩
          obtain ⟨bs, hbs⟩ : ∃ bs, (getN l x).isSome = bs := ⟨_, rfl⟩
          rw [hy] at HGG HN1
          rw [hbs] at HGG
          have HFX := HFZ.out x
          have HGX := HGZ.out x
          have HSS0 := Lib.hid fun (W : World) (hW : Below w.heap.size w W) => HSH.out W hW x
          obtain ⟨fs, hfs⟩ : ∃ z, formsL T l x = z := ⟨_, rfl⟩
          obtain ⟨gs, hgs⟩ : ∃ z, glossesL T l x = z := ⟨_, rfl⟩
          rw [hfs] at HN2 HSN HSS0 HFX
          rw [hgs] at HN3 HSS0 HGX
          have HZ1 := Lib.hid HFX
          have HZ2 := Lib.hid HGX
          clear hc hidx hr1 hr2 hr3 hy hbs htx hfs hgs HFX HGX hsm
          have k0 : w4.cell? ⟨w.heap.size, 0, none⟩ = some (.int .i64 rid) := HK.out w4 HB04.out 0 _ rfl
          have k1 : w4.cell? ⟨w.heap.size, 1, none⟩ = some (.string name) := HK.out w4 HB04.out 1 _ rfl
          have k2 : w4.cell? ⟨w.heap.size, 2, none⟩ = some (.int .i64 len) := HK.out w4 HB04.out 2 _ rfl
          have k3 : w4.cell? ⟨w.heap.size, 3, none⟩ = some (.int .i64 day) := HK.out w4 HB04.out 3 _ rfl
          have k4 : w4.cell? ⟨w.heap.size, 4, none⟩ = some (.slice sa sn sc) := HK.out w4 HB04.out 4 _ rfl
          have k5 : w4.cell? ⟨w.heap.size, 5, none⟩ = some (.slice ta tn tc) := HK.out w4 HB04.out 5 _ rfl
          have k6 : w4.cell? ⟨w.heap.size, 6, none⟩ = some (.slice na nn nc) := HK.out w4 HB04.out 6 _ rfl
          go_wp2_with fail
          refine HGG.out.mono ?_
          rintro e w5 ⟨rfl, hb5⟩
          obtain ⟨pn, hpn⟩ : ∃ pn, w5.heap.size = pn := ⟨_, rfl⟩
          obtain ⟨W5, hW5⟩ : ∃ W5, w5.alloc (.cells #[.int .i64 y.nid, .int .i64 y.tier, .int .i64 y.parent, .int .i64 y.at1, .int .i64 y.at2, .int .i64 y.rank, .string y.text] 58) = W5 := ⟨_, rfl⟩
          have hz5 : W5.heap.size = pn + 1 := by rw [← hW5, ← hpn]; simp
          have hb5' : Below w4.heap.size w4 W5 := by rw [← hW5]; exact hb5.alloc hb5.size _
          have HY : Hid (∀ W, Below W5.heap.size W5 W → W.cell? ⟨pn, 6, none⟩ = some (.string y.text)) := fun W hW => by
            rw [hW.cell (by show pn < _; omega), ← hW5, ← hpn, World.cell?_alloc_new]; rfl
          have HR5 := Lib.hid (HR.out.on hb5')
          have HB25 : Hid (Below w2.heap.size w2 W5) := HB24.out.trans (hb5'.mono HB24.out.size)
          have HB05 : Hid (Below W0.heap.size W0 W5) := HB2.out.trans (HB25.out.mono HB2.out.size)
          clear hb5 hb5' k0 k1 k2 k3 k4 k5 k6 HGG hcw HR
          go_upto_region 13 with fail
          (try rw [hW5])
          (try rw [hpn])
          clear hW5 hpn
          have k0 : W5.cell? ⟨w.heap.size, 0, none⟩ = some (.int .i64 rid) := HK.out W5 HB05.out 0 _ rfl
          have k1 : W5.cell? ⟨w.heap.size, 1, none⟩ = some (.string name) := HK.out W5 HB05.out 1 _ rfl
          have k2 : W5.cell? ⟨w.heap.size, 2, none⟩ = some (.int .i64 len) := HK.out W5 HB05.out 2 _ rfl
          have k3 : W5.cell? ⟨w.heap.size, 3, none⟩ = some (.int .i64 day) := HK.out W5 HB05.out 3 _ rfl
          have k4 : W5.cell? ⟨w.heap.size, 4, none⟩ = some (.slice sa sn sc) := HK.out W5 HB05.out 4 _ rfl
          have k5 : W5.cell? ⟨w.heap.size, 5, none⟩ = some (.slice ta tn tc) := HK.out W5 HB05.out 5 _ rfl
          have k6 : W5.cell? ⟨w.heap.size, 6, none⟩ = some (.slice na nn nc) := HK.out W5 HB05.out 6 _ rfl
          have HSS := Lib.hid (HSS0.out W5 (HBW.out _ HB05.out))
          clear HSS0
          cases sm with
          | true =>
            go_wp2_with fail
            refine HSS.out.mono ?_
            rintro e w6 ⟨v1, v2, rfl, hO1, hO2, hb6⟩
            obtain ⟨A1, c1, hv1, h1a, h1b, h1r⟩ := OwnS.form hO1
            obtain ⟨A2, c2, hv2, h2a, h2b, h2r⟩ := OwnS.form hO2
            subst hv1
            subst hv2
            have HC1 := Lib.hid h1a
            have HC2 := Lib.hid h2a
            have HS1 : Hid (∀ W, Below w6.heap.size w6 W → SR W W.heap.size A1 fs.length fs) := fun W hW => Reads.on h1r hW
            have HS2 : Hid (∀ W, Below w6.heap.size w6 W → SR W W.heap.size A2 gs.length gs) := fun W hW => Reads.on h2r hW
            have HY6 : Hid (∀ W, Below w6.heap.size w6 W → W.cell? ⟨pn, 6, none⟩ = some (.string y.text)) := fun W hW => HY.out W (hb6.trans (hW.mono hb6.size))
            have HR6 := Lib.hid (HR5.out.on hb6)
            have HB26 : Hid (Below w2.heap.size w2 w6) := HB25.out.trans (hb6.mono HB25.out.size)
            clear hO1 hO2 h1a h1b h1r h2a h2b h2r hb6 k0 k1 k2 k3 k4 k5 k6 HSS
            go_upto_region 15 with fail
            refine wp_region_told [Told.is (.pointer (some ⟨pn, 6, none⟩)), Told.is (.string y.text), Told.is (.slice A1 fs.length c1), Told.is (.string (joinD fs)), Told.is (.slice A2 gs.length c2), Told.is (.string (joinD gs)), Told.such (fun v W => OwnS W w6.heap.size v [y.text, joinD fs, joinD gs]) (fun v W W' h hb => OwnS.on h hb), Told.is (.int .i64 3), Told.is (.int .i64 0)] (by kernel_rfl) (by kernel_rfl) ?_ ?_
            · refine And.intro (fun w1 vals hB hd K hK => ?_) ?_
              · clear hd
                simp only [putAll, Act.put, List.setIfInBounds_toArray, List.set_cons_zero, List.set_cons_succ] at hK ⊢
                obtain ⟨ve, hve⟩ : ∃ f : Nat → Value, f = vals := ⟨_, rfl⟩
                rw [← hve] at hK  ⊢
                clear hve
                refine gwp_none rfl ?_
                go_simp
                exact hK _ _ rfl (Below.refl _ _)
              refine And.intro (fun w1 vals hB hd K hK => ?_) ?_
              · have e0 : vals 0 = .pointer (some ⟨pn, 6, none⟩) := told_at (hd 0 rfl) rfl
                clear hd
                simp only [putAll, Act.put, List.setIfInBounds_toArray, List.set_cons_zero, List.set_cons_succ] at hK ⊢
                simp only [e0] at hK ⊢
                obtain ⟨ve, hve⟩ : ∃ f : Nat → Value, f = vals := ⟨_, rfl⟩
                rw [← hve] at hK  ⊢
                clear e0 hve
                refine gwp_none rfl ?_
                have c6 : w1.cell? ⟨pn, 6, none⟩ = some (.string y.text) := HY6.out w1 hB
                go_simp
                exact hK _ _ rfl (Below.refl _ _)
              refine And.intro (fun w1 vals hB hd K hK => ?_) ?_
              · clear hd
                simp only [putAll, Act.put, List.setIfInBounds_toArray, List.set_cons_zero, List.set_cons_succ] at hK ⊢
                obtain ⟨ve, hve⟩ : ∃ f : Nat → Value, f = vals := ⟨_, rfl⟩
                rw [← hve] at hK  ⊢
                clear hve
                refine gwp_none rfl ?_
                go_simp
                exact hK _ _ rfl (Below.refl _ _)
              refine And.intro (fun w1 vals hB hd K hK => ?_) ?_
              · have e2 : vals 2 = .slice A1 fs.length c1 := told_at (hd 2 rfl) rfl
                clear hd
                simp only [putAll, Act.put, List.setIfInBounds_toArray, List.set_cons_zero, List.set_cons_succ] at hK ⊢
                simp only [e2] at hK ⊢
                obtain ⟨ve, hve⟩ : ∃ f : Nat → Value, f = vals := ⟨_, rfl⟩
                rw [← hve] at hK  ⊢
                clear e2 hve
                refine gwp_none rfl ?_
                go_simp
                refine (joinDash_any A1 fs.length c1 fs w1 (HS1.out w1 hB) HZ1.out HC1.out).mono ?_
                rintro e w4 ⟨rfl, hb4⟩
                exact hK _ _ rfl hb4
              refine And.intro (fun w1 vals hB hd K hK => ?_) ?_
              · clear hd
                simp only [putAll, Act.put, List.setIfInBounds_toArray, List.set_cons_zero, List.set_cons_succ] at hK ⊢
                obtain ⟨ve, hve⟩ : ∃ f : Nat → Value, f = vals := ⟨_, rfl⟩
                rw [← hve] at hK  ⊢
                clear hve
                refine gwp_none rfl ?_
                go_simp
                exact hK _ _ rfl (Below.refl _ _)
              refine And.intro (fun w1 vals hB hd K hK => ?_) ?_
              · have e4 : vals 4 = .slice A2 gs.length c2 := told_at (hd 4 rfl) rfl
                clear hd
                simp only [putAll, Act.put, List.setIfInBounds_toArray, List.set_cons_zero, List.set_cons_succ] at hK ⊢
                simp only [e4] at hK ⊢
                obtain ⟨ve, hve⟩ : ∃ f : Nat → Value, f = vals := ⟨_, rfl⟩
                rw [← hve] at hK  ⊢
                clear e4 hve
                refine gwp_none rfl ?_
                go_simp
                refine (joinDash_any A2 gs.length c2 gs w1 (HS2.out w1 hB) HZ2.out HC2.out).mono ?_
                rintro e w4 ⟨rfl, hb4⟩
                exact hK _ _ rfl hb4
              refine And.intro (fun w1 vals hB hd K hK => ?_) ?_
              · have e1 : vals 1 = .string y.text := told_at (hd 1 rfl) rfl
                have e3 : vals 3 = .string (joinD fs) := told_at (hd 3 rfl) rfl
                have e5 : vals 5 = .string (joinD gs) := told_at (hd 5 rfl) rfl
                clear hd
                simp only [putAll, Act.put, List.setIfInBounds_toArray, List.set_cons_zero, List.set_cons_succ] at hK ⊢
                simp only [e1, e3, e5] at hK ⊢
                obtain ⟨ve, hve⟩ : ∃ f : Nat → Value, f = vals := ⟨_, rfl⟩
                rw [← hve] at hK  ⊢
                clear e1 e3 e5 hve
                refine gwp_none rfl ?_
                go_simp
                exact hK _ _ (own_base (strs_made w1 [y.text, joinD fs, joinD gs] _ rfl 3 rfl (by show 3 ≤ _; omega)) hB.size) ((Below.refl _ _).alloc (Nat.le_refl _) _)
              refine And.intro (fun w1 vals hB hd K hK => ?_) ?_
              · have p6 := told_at (t := Told.such (fun v W => OwnS W w6.heap.size v [y.text, joinD fs, joinD gs]) (fun v W W' h hb => OwnS.on h hb)) (hd 6 rfl) rfl
                simp only [Told.holds] at p6
                clear hd
                obtain ⟨x6, hx6⟩ : ∃ x, vals 6 = x := ⟨_, rfl⟩
                rw [hx6] at p6
                simp only [putAll, Act.put, List.setIfInBounds_toArray, List.set_cons_zero, List.set_cons_succ] at hK ⊢
                simp only [hx6] at hK ⊢
                obtain ⟨ve, hve⟩ : ∃ f : Nat → Value, f = vals := ⟨_, rfl⟩
                rw [← hve] at hK  ⊢
                clear hx6 hve
                refine gwp_none rfl ?_
                obtain ⟨A6, c6, rfl, _, _, _⟩ := OwnS.form p6
                go_simp
                exact hK _ _ rfl (Below.refl _ _)
              refine And.intro (fun w1 vals hB hd K hK => ?_) ?_
              · clear hd
                simp only [putAll, Act.put, List.setIfInBounds_toArray, List.set_cons_zero, List.set_cons_succ] at hK ⊢
                obtain ⟨ve, hve⟩ : ∃ f : Nat → Value, f = vals := ⟨_, rfl⟩
                rw [← hve] at hK  ⊢
                clear hve
                refine gwp_none rfl ?_
                go_simp
                exact hK _ _ rfl (Below.refl _ _)
              exact trivial
            · intro w1 vals hB hd
              have p6 := told_at (t := Told.such (fun v W => OwnS W w6.heap.size v [y.text, joinD fs, joinD gs]) (fun v W W' h hb => OwnS.on h hb)) (hd 6 (by decide)) rfl
              simp only [Told.holds] at p6
              have e7 : vals 7 = .int .i64 3 := told_at (hd 7 (by decide)) rfl
              have e8 : vals 8 = .int .i64 0 := told_at (hd 8 (by decide)) rfl
              obtain ⟨x6, hx6⟩ : ∃ x, vals 6 = x := ⟨_, rfl⟩
              rw [hx6] at p6
              clear hd
              simp only [putAll, Act.put, List.setIfInBounds_toArray, List.set_cons_zero, List.set_cons_succ]
              simp only [hx6, e7, e8]
              obtain ⟨ve, hve⟩ : ∃ f : Nat → Value, f = vals := ⟨_, rfl⟩
              rw [← hve]
              clear hx6 e7 e8 hve
              obtain ⟨A6, c6, hv6, h6a, h6b, h6r⟩ := OwnS.form p6
              have HO6 := Lib.hid p6
              have HR7 := Lib.hid (HR6.out.on hB)
              have HB27 : Hid (Below w2.heap.size w2 w1) := HB26.out.trans (hB.mono HB26.out.size)
              have HRB6 : Hid (∀ (j : Nat) v, j < 3 → w1.cell? ⟨rb, j, none⟩ = some v → Apart x6 v) := fun j v hj hv b hb he => by
                have h1 := (p6.lt b hb).1
                have h2 := HR6.out.block (i := j) hj (by rw [← hv]; exact (hB.cell (by exact HR6.out.size)).symm) b he
                omega
              subst hv6
              have HG7 : Hid (RowG w1 (rb + 1) rb [r1, r2, r3] (.slice A6 3 c6) w6.heap.size [y.text, joinD fs, joinD gs]) := RowG.new HR7.out HO6.out HR6.out.size HRB6.out
              have hz7 := HB27.out.size
              clear p6 HRB6 HR7 HO6 h6a h6b h6r hB
              (try go_wp2_with fail)
              go_loopw [16, 17, 69] (fun v16 v17 v69 wi => ∃ j : Nat, j ≤ 3 ∧ v69 = .int .i64 j ∧ Hid (RowG wi (rb + 1) rb (upto [r1, r2, r3] [y.text, joinD fs, joinD gs] j) (.slice A6 3 c6) w6.heap.size [y.text, joinD fs, joinD gs]) ∧ Hid (Below rb w2 wi)) (fun _ _ v69 _ => 3 - (intOf v69).toNat)
              case atStart => exact ⟨0, by omega, rfl, HG7.out, (by rw [← hrb]; exact HB27.out)⟩
              case round =>
                clear HG7
                obtain ⟨j, hj, rfl, HG8, HB8⟩ := hrel
                obtain ⟨w8, hw8⟩ : ∃ w8, wr = w8 := ⟨_, rfl⟩
                rw [hw8] at HG8 HB8 ⊢
                clear hw8
                have hrl8 : rb < w8.heap.size := HG8.out.rowN.size
                by_cases hjt : j < 3
                · have hjz : (j : Int) < 3 := by omega
                  have hjA : (0 : Int) ≤ (j : Int) := by omega
                  obtain ⟨s, hs⟩ : ∃ s, ([y.text, joinD fs, joinD gs] : List ByteArray)[j]? = some s := ⟨_, List.getElem?_eq_getElem hjt⟩
                  obtain ⟨B, hB1, hB2, hB3⟩ := upto_next [r1, r2, r3] [y.text, joinD fs, joinD gs] j s rfl hs
                  have hBl : B.length ≤ 20 := by
                    rw [hB2]
                    match j, hjt with
                    | 0, _ => exact hl1
                    | 1, _ => exact hl2
                    | 2, _ => exact hl3
                  have HUP := Lib.hid hB3
                  have HJT := Lib.hid hjt
                  obtain ⟨v, hc, hf, hov, hstep⟩ := HG8.out.at_ hB1
                  obtain ⟨Aj, cj, hvj, hja, hjb, hjr⟩ := OwnS.form hov
                  subst hvj
                  have HOV := Lib.hid hov
                  have HSTEP := Lib.hid hstep
                  obtain ⟨A9, c9, hv9, _, _, h9r⟩ := OwnS.form HG8.out.own
                  injection hv9 with hA9 _ hc9
                  rw [← hA9] at h9r
                  obtain ⟨ad, s', hAd, hab, hs2, hcs⟩ := h9r.at_ (k := j) hjt
                  subst hAd
                  rw [hs] at hs2
                  cases hs2
                  clear hs hB1 hB2 hB3 hov hstep hA9 hc9 h9r hjr hab
                  go_wp2_with (at_builtin; refine wpList_app1 rfl (.tmp 79) (.tmp 81) 45 rfl (rb + 1) 9 16 (.string .empty) info_string rfl Tryz.underlying45 rfl HOV.out rfl rfl (by omega) (by omega) (by omega) ?_; rintro v9' w9 hown9 hb9 hs9 hk9; obtain ⟨A10, c10, hv10, _, _, _⟩ := own_form hown9; subst hv10; obtain ⟨hf9, hc9', hR9⟩ := HSTEP.out _ w9 s hown9 hb9 (by omega) hk9; have HR9 := Lib.hid hR9; clear hR9 hk9 hown9)
                  have HBE := Lib.hid ((HB8.out.trans (hb9.mono (by omega))).setCell (p := ⟨rb, j, none⟩) (Nat.le_refl _) (.slice A10 (B.length + 1) c10))
                  rw [← HUP.out] at HR9
                  clear hb9
                  go_wp2
                  go_roundw
                  case rel =>
                    first
                      | exact ⟨j + 1, HJT.out, by go_num, HR9, HBE⟩
                      | ((repeat apply Exists.intro); refine ⟨?_, rfl⟩; exact ⟨j + 1, HJT.out, by go_num, HR9, HBE⟩)
                  case measure => have := HJT.out; simp [intOf]; omega
                · obtain rfl : j = 3 := by omega
                  have HRE : Hid (RowN w8 (rb + 1) rb [r1 ++ [y.text], r2 ++ [joinD fs], r3 ++ [joinD gs]]) := HG8.out.rowN
                  rw [← HN1.out, ← HN2.out, ← HN3.out] at HRE
                  go_wp2
                  go_roundw
                  case rel =>
                    first
                      | exact ⟨i + 1, HLT.out, by go_num, by rw [HSN.out]; simp, HRE, HB8⟩
                      | ((repeat apply Exists.intro); refine ⟨?_, rfl⟩; exact ⟨i + 1, HLT.out, by go_num, by rw [HSN.out]; simp, HRE, HB8⟩)
                  case measure => have := HLT.out; simp [intOf]; omega
          | false =>
            go_wp2_with fail
            refine HSS.out.mono ?_
            rintro e w6 ⟨v1, v2, rfl, hO1, hO2, hb6⟩
            obtain ⟨A1, c1, hv1, h1a, h1b, h1r⟩ := OwnS.form hO1
            obtain ⟨A2, c2, hv2, h2a, h2b, h2r⟩ := OwnS.form hO2
            subst hv1
            subst hv2
            have HC1 := Lib.hid h1a
            have HC2 := Lib.hid h2a
            have HS1 : Hid (∀ W, Below w6.heap.size w6 W → SR W W.heap.size A1 fs.length fs) := fun W hW => Reads.on h1r hW
            have HS2 : Hid (∀ W, Below w6.heap.size w6 W → SR W W.heap.size A2 gs.length gs) := fun W hW => Reads.on h2r hW
            have HY6 : Hid (∀ W, Below w6.heap.size w6 W → W.cell? ⟨pn, 6, none⟩ = some (.string y.text)) := fun W hW => HY.out W (hb6.trans (hW.mono hb6.size))
            have HR6 := Lib.hid (HR5.out.on hb6)
            have HB26 : Hid (Below w2.heap.size w2 w6) := HB25.out.trans (hb6.mono HB25.out.size)
            clear hO1 hO2 h1a h1b h1r h2a h2b h2r hb6 k0 k1 k2 k3 k4 k5 k6 HSS
            go_upto_region 15 with fail
            refine wp_region_told [Told.is (.pointer (some ⟨pn, 6, none⟩)), Told.is (.string y.text), Told.is (.slice A1 fs.length c1), Told.is (.string (joinD fs)), Told.is (.slice A2 gs.length c2), Told.is (.string (joinD gs)), Told.such (fun v W => OwnS W w6.heap.size v [y.text, joinD fs, joinD gs]) (fun v W W' h hb => OwnS.on h hb), Told.is (.int .i64 3), Told.is (.int .i64 0)] (by kernel_rfl) (by kernel_rfl) ?_ ?_
            · refine And.intro (fun w1 vals hB hd K hK => ?_) ?_
              · clear hd
                simp only [putAll, Act.put, List.setIfInBounds_toArray, List.set_cons_zero, List.set_cons_succ] at hK ⊢
                obtain ⟨ve, hve⟩ : ∃ f : Nat → Value, f = vals := ⟨_, rfl⟩
                rw [← hve] at hK  ⊢
                clear hve
                refine gwp_none rfl ?_
                go_simp
                exact hK _ _ rfl (Below.refl _ _)
              refine And.intro (fun w1 vals hB hd K hK => ?_) ?_
              · have e0 : vals 0 = .pointer (some ⟨pn, 6, none⟩) := told_at (hd 0 rfl) rfl
                clear hd
                simp only [putAll, Act.put, List.setIfInBounds_toArray, List.set_cons_zero, List.set_cons_succ] at hK ⊢
                simp only [e0] at hK ⊢
                obtain ⟨ve, hve⟩ : ∃ f : Nat → Value, f = vals := ⟨_, rfl⟩
                rw [← hve] at hK  ⊢
                clear e0 hve
                refine gwp_none rfl ?_
                have c6 : w1.cell? ⟨pn, 6, none⟩ = some (.string y.text) := HY6.out w1 hB
                go_simp
                exact hK _ _ rfl (Below.refl _ _)
              refine And.intro (fun w1 vals hB hd K hK => ?_) ?_
              · clear hd
                simp only [putAll, Act.put, List.setIfInBounds_toArray, List.set_cons_zero, List.set_cons_succ] at hK ⊢
                obtain ⟨ve, hve⟩ : ∃ f : Nat → Value, f = vals := ⟨_, rfl⟩
                rw [← hve] at hK  ⊢
                clear hve
                refine gwp_none rfl ?_
                go_simp
                exact hK _ _ rfl (Below.refl _ _)
              refine And.intro (fun w1 vals hB hd K hK => ?_) ?_
              · have e2 : vals 2 = .slice A1 fs.length c1 := told_at (hd 2 rfl) rfl
                clear hd
                simp only [putAll, Act.put, List.setIfInBounds_toArray, List.set_cons_zero, List.set_cons_succ] at hK ⊢
                simp only [e2] at hK ⊢
                obtain ⟨ve, hve⟩ : ∃ f : Nat → Value, f = vals := ⟨_, rfl⟩
                rw [← hve] at hK  ⊢
                clear e2 hve
                refine gwp_none rfl ?_
                go_simp
                refine (joinDash_any A1 fs.length c1 fs w1 (HS1.out w1 hB) HZ1.out HC1.out).mono ?_
                rintro e w4 ⟨rfl, hb4⟩
                exact hK _ _ rfl hb4
              refine And.intro (fun w1 vals hB hd K hK => ?_) ?_
              · clear hd
                simp only [putAll, Act.put, List.setIfInBounds_toArray, List.set_cons_zero, List.set_cons_succ] at hK ⊢
                obtain ⟨ve, hve⟩ : ∃ f : Nat → Value, f = vals := ⟨_, rfl⟩
                rw [← hve] at hK  ⊢
                clear hve
                refine gwp_none rfl ?_
                go_simp
                exact hK _ _ rfl (Below.refl _ _)
              refine And.intro (fun w1 vals hB hd K hK => ?_) ?_
              · have e4 : vals 4 = .slice A2 gs.length c2 := told_at (hd 4 rfl) rfl
                clear hd
                simp only [putAll, Act.put, List.setIfInBounds_toArray, List.set_cons_zero, List.set_cons_succ] at hK ⊢
                simp only [e4] at hK ⊢
                obtain ⟨ve, hve⟩ : ∃ f : Nat → Value, f = vals := ⟨_, rfl⟩
                rw [← hve] at hK  ⊢
                clear e4 hve
                refine gwp_none rfl ?_
                go_simp
                refine (joinDash_any A2 gs.length c2 gs w1 (HS2.out w1 hB) HZ2.out HC2.out).mono ?_
                rintro e w4 ⟨rfl, hb4⟩
                exact hK _ _ rfl hb4
              refine And.intro (fun w1 vals hB hd K hK => ?_) ?_
              · have e1 : vals 1 = .string y.text := told_at (hd 1 rfl) rfl
                have e3 : vals 3 = .string (joinD fs) := told_at (hd 3 rfl) rfl
                have e5 : vals 5 = .string (joinD gs) := told_at (hd 5 rfl) rfl
                clear hd
                simp only [putAll, Act.put, List.setIfInBounds_toArray, List.set_cons_zero, List.set_cons_succ] at hK ⊢
                simp only [e1, e3, e5] at hK ⊢
                obtain ⟨ve, hve⟩ : ∃ f : Nat → Value, f = vals := ⟨_, rfl⟩
                rw [← hve] at hK  ⊢
                clear e1 e3 e5 hve
                refine gwp_none rfl ?_
                go_simp
                exact hK _ _ (own_base (strs_made w1 [y.text, joinD fs, joinD gs] _ rfl 3 rfl (by show 3 ≤ _; omega)) hB.size) ((Below.refl _ _).alloc (Nat.le_refl _) _)
              refine And.intro (fun w1 vals hB hd K hK => ?_) ?_
              · have p6 := told_at (t := Told.such (fun v W => OwnS W w6.heap.size v [y.text, joinD fs, joinD gs]) (fun v W W' h hb => OwnS.on h hb)) (hd 6 rfl) rfl
                simp only [Told.holds] at p6
                clear hd
                obtain ⟨x6, hx6⟩ : ∃ x, vals 6 = x := ⟨_, rfl⟩
                rw [hx6] at p6
                simp only [putAll, Act.put, List.setIfInBounds_toArray, List.set_cons_zero, List.set_cons_succ] at hK ⊢
                simp only [hx6] at hK ⊢
                obtain ⟨ve, hve⟩ : ∃ f : Nat → Value, f = vals := ⟨_, rfl⟩
                rw [← hve] at hK  ⊢
                clear hx6 hve
                refine gwp_none rfl ?_
                obtain ⟨A6, c6, rfl, _, _, _⟩ := OwnS.form p6
                go_simp
                exact hK _ _ rfl (Below.refl _ _)
              refine And.intro (fun w1 vals hB hd K hK => ?_) ?_
              · clear hd
                simp only [putAll, Act.put, List.setIfInBounds_toArray, List.set_cons_zero, List.set_cons_succ] at hK ⊢
                obtain ⟨ve, hve⟩ : ∃ f : Nat → Value, f = vals := ⟨_, rfl⟩
                rw [← hve] at hK  ⊢
                clear hve
                refine gwp_none rfl ?_
                go_simp
                exact hK _ _ rfl (Below.refl _ _)
              exact trivial
            · intro w1 vals hB hd
              have p6 := told_at (t := Told.such (fun v W => OwnS W w6.heap.size v [y.text, joinD fs, joinD gs]) (fun v W W' h hb => OwnS.on h hb)) (hd 6 (by decide)) rfl
              simp only [Told.holds] at p6
              have e7 : vals 7 = .int .i64 3 := told_at (hd 7 (by decide)) rfl
              have e8 : vals 8 = .int .i64 0 := told_at (hd 8 (by decide)) rfl
              obtain ⟨x6, hx6⟩ : ∃ x, vals 6 = x := ⟨_, rfl⟩
              rw [hx6] at p6
              clear hd
              simp only [putAll, Act.put, List.setIfInBounds_toArray, List.set_cons_zero, List.set_cons_succ]
              simp only [hx6, e7, e8]
              obtain ⟨ve, hve⟩ : ∃ f : Nat → Value, f = vals := ⟨_, rfl⟩
              rw [← hve]
              clear hx6 e7 e8 hve
              obtain ⟨A6, c6, hv6, h6a, h6b, h6r⟩ := OwnS.form p6
              have HO6 := Lib.hid p6
              have HR7 := Lib.hid (HR6.out.on hB)
              have HB27 : Hid (Below w2.heap.size w2 w1) := HB26.out.trans (hB.mono HB26.out.size)
              have HRB6 : Hid (∀ (j : Nat) v, j < 3 → w1.cell? ⟨rb, j, none⟩ = some v → Apart x6 v) := fun j v hj hv b hb he => by
                have h1 := (p6.lt b hb).1
                have h2 := HR6.out.block (i := j) hj (by rw [← hv]; exact (hB.cell (by exact HR6.out.size)).symm) b he
                omega
              subst hv6
              have HG7 : Hid (RowG w1 (rb + 1) rb [r1, r2, r3] (.slice A6 3 c6) w6.heap.size [y.text, joinD fs, joinD gs]) := RowG.new HR7.out HO6.out HR6.out.size HRB6.out
              have hz7 := HB27.out.size
              clear p6 HRB6 HR7 HO6 h6a h6b h6r hB
              (try go_wp2_with fail)
              go_loopw [16, 17, 69] (fun v16 v17 v69 wi => ∃ j : Nat, j ≤ 3 ∧ v69 = .int .i64 j ∧ Hid (RowG wi (rb + 1) rb (upto [r1, r2, r3] [y.text, joinD fs, joinD gs] j) (.slice A6 3 c6) w6.heap.size [y.text, joinD fs, joinD gs]) ∧ Hid (Below rb w2 wi)) (fun _ _ v69 _ => 3 - (intOf v69).toNat)
              case atStart => exact ⟨0, by omega, rfl, HG7.out, (by rw [← hrb]; exact HB27.out)⟩
              case round =>
                clear HG7
                obtain ⟨j, hj, rfl, HG8, HB8⟩ := hrel
                obtain ⟨w8, hw8⟩ : ∃ w8, wr = w8 := ⟨_, rfl⟩
                rw [hw8] at HG8 HB8 ⊢
                clear hw8
                have hrl8 : rb < w8.heap.size := HG8.out.rowN.size
                by_cases hjt : j < 3
                · have hjz : (j : Int) < 3 := by omega
                  have hjA : (0 : Int) ≤ (j : Int) := by omega
                  obtain ⟨s, hs⟩ : ∃ s, ([y.text, joinD fs, joinD gs] : List ByteArray)[j]? = some s := ⟨_, List.getElem?_eq_getElem hjt⟩
                  obtain ⟨B, hB1, hB2, hB3⟩ := upto_next [r1, r2, r3] [y.text, joinD fs, joinD gs] j s rfl hs
                  have hBl : B.length ≤ 20 := by
                    rw [hB2]
                    match j, hjt with
                    | 0, _ => exact hl1
                    | 1, _ => exact hl2
                    | 2, _ => exact hl3
                  have HUP := Lib.hid hB3
                  have HJT := Lib.hid hjt
                  obtain ⟨v, hc, hf, hov, hstep⟩ := HG8.out.at_ hB1
                  obtain ⟨Aj, cj, hvj, hja, hjb, hjr⟩ := OwnS.form hov
                  subst hvj
                  have HOV := Lib.hid hov
                  have HSTEP := Lib.hid hstep
                  obtain ⟨A9, c9, hv9, _, _, h9r⟩ := OwnS.form HG8.out.own
                  injection hv9 with hA9 _ hc9
                  rw [← hA9] at h9r
                  obtain ⟨ad, s', hAd, hab, hs2, hcs⟩ := h9r.at_ (k := j) hjt
                  subst hAd
                  rw [hs] at hs2
                  cases hs2
                  clear hs hB1 hB2 hB3 hov hstep hA9 hc9 h9r hjr hab
                  go_wp2_with (at_builtin; refine wpList_app1 rfl (.tmp 79) (.tmp 81) 45 rfl (rb + 1) 9 16 (.string .empty) info_string rfl Tryz.underlying45 rfl HOV.out rfl rfl (by omega) (by omega) (by omega) ?_; rintro v9' w9 hown9 hb9 hs9 hk9; obtain ⟨A10, c10, hv10, _, _, _⟩ := own_form hown9; subst hv10; obtain ⟨hf9, hc9', hR9⟩ := HSTEP.out _ w9 s hown9 hb9 (by omega) hk9; have HR9 := Lib.hid hR9; clear hR9 hk9 hown9)
                  have HBE := Lib.hid ((HB8.out.trans (hb9.mono (by omega))).setCell (p := ⟨rb, j, none⟩) (Nat.le_refl _) (.slice A10 (B.length + 1) c10))
                  rw [← HUP.out] at HR9
                  clear hb9
                  go_wp2
                  go_roundw
                  case rel =>
                    first
                      | exact ⟨j + 1, HJT.out, by go_num, HR9, HBE⟩
                      | ((repeat apply Exists.intro); refine ⟨?_, rfl⟩; exact ⟨j + 1, HJT.out, by go_num, HR9, HBE⟩)
                  case measure => have := HJT.out; simp [intOf]; omega
                · obtain rfl : j = 3 := by omega
                  have HRE : Hid (RowN w8 (rb + 1) rb [r1 ++ [y.text], r2 ++ [joinD fs], r3 ++ [joinD gs]]) := HG8.out.rowN
                  rw [← HN1.out, ← HN2.out, ← HN3.out] at HRE
                  go_wp2
                  go_roundw
                  case rel =>
                    first
                      | exact ⟨i + 1, HLT.out, by go_num, by rw [HSN.out]; simp, HRE, HB8⟩
                      | ((repeat apply Exists.intro); refine ⟨?_, rfl⟩; exact ⟨i + 1, HLT.out, by go_num, by rw [HSN.out]; simp, HRE, HB8⟩)
                  case measure => have := HLT.out; simp [intOf]; omega
        · obtain rfl : i = wl := by omega
          have hiz : ¬ (i : Int) < (i : Int) := by omega
          rw [← HWL.out, List.take_length] at HR hsm
          have hrC3 := HR.out.rowsC (n := 3) (by show 3 ≤ 3; omega)
          have hrC1 := HR.out.rowsC (n := 1) (by show 1 ≤ 3; omega)
          have HC3 := Lib.hid hrC3
          have HC1 := Lib.hid hrC1
          have HSM := Lib.hid hsm
          clear hrC3 hrC1 hsm
          cases sm with
          | true =>
            go_wp2
            go_ret
            refine ⟨⟨fun h => (by cases h), fun _ => ⟨rb, 3, 3, rfl, ?_, Nat.le_refl _, by omega⟩⟩, HBW.out _ HB04.out⟩
            (try rw [if_pos rfl, if_neg HWS.out])
            unfold rowsW
            rw [if_pos HSM.out]
            exact HC3.out
          | false =>
            go_wp2
            go_ret
            refine ⟨⟨fun h => (by cases h), fun _ => ⟨rb, 1, 3, rfl, ?_, by omega, by omega⟩⟩, HBW.out _ HB04.out⟩
            (try rw [if_pos rfl, if_neg HWS.out])
            unfold rowsW
            rw [if_neg (by rw [HSM.out]; simp)]
            exact HC1.out
end Go.Proofs.YthcabnfcgjnlnaaGreatDoor
