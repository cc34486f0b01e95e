import Derived.Test.YthcabnfcgjnlnaaGreatDoorB09
import Derived.Deep.LoopGhost
set_option linter.unusedVariables false
set_option linter.unusedSimpArgs false
namespace Go.Proofs.YthcabnfcgjnlnaaGreatDoor
section
open Go.RowKit Ru Lay
attribute [local go_sem ↓] Go.wp_at_zero Go.wp_at_succ
def RowsV (b : Bool) (L : List (List ByteArray)) (e : Ending) (w' : World) : Prop :=
 (b = false -> e = .returned (.slice none 0 0)) /\ (b = true -> ∃ g n c, e = .returned (.slice (some ⟨g, 0, none⟩) n c) /\ RowsC w' w'.heap.size (some ⟨g, 0, none⟩) n L /\ n <= c /\ c <= 9223372036854775807)
theorem rowsC_new (w : World) (e : TypeId) (vs : List Value) (c : Array Value) (hc : c.toList = vs) (Ls : List (List ByteArray)) (n : Nat) (hn : n = Ls.length) (hl : vs.length = Ls.length)
  (h : ∀ (i : Nat) (l : List ByteArray), Ls[i]? = some l -> ∃ A' n' c', vs[i]? = some (Value.slice A' n' c') /\ SR w w.heap.size A' n' l /\ n' <= c' /\ c' <= 9223372036854775807) :
  RowsC (w.alloc (.cells c e)) (w.alloc (.cells c e)).heap.size (some ⟨w.heap.size, 0, none⟩) n Ls := by
 subst hn;have hb : Below w.heap.size w (w.alloc (.cells c e)) := bR.alloc (Nat.le_refl _) _;refine ⟨vs, ⟨by omega, fun _ => ⟨_, rfl, by simp, fun j u hu => ?_⟩⟩, rfl, fun i l hil => ?_⟩
 ·rw [Addr.add_mid, Nat.zero_add, World.cell?_alloc_new, <- hu, <- hc];simp
 ·obtain ⟨A', n', c', h1, h2, h3, h4⟩ := h i l hil;exact ⟨A', n', c', h1, Reads.on h2 hb, h3, h4⟩
theorem rowsC_one (w : World) (s : ByteArray) (e e' : TypeId) : RowsC ((w.alloc (.cells #[.string s] e)).alloc (.cells #[.slice (some ⟨w.heap.size, 0, none⟩) 1 1] e')) ((w.alloc (.cells #[.string s] e)).alloc (.cells #[.slice (some ⟨w.heap.size, 0, none⟩) 1 1] e')).heap.size (some ⟨w.heap.size + 1, 0, none⟩) 1 [[s]] := by
 have hz : (w.alloc (.cells #[.string s] e)).heap.size = w.heap.size + 1 := by simp
 have h := rowsC_new (w.alloc (.cells #[.string s] e)) e' [.slice (some ⟨w.heap.size, 0, none⟩) 1 1] #[.slice (some ⟨w.heap.size, 0, none⟩) 1 1] rfl [[s]] 1 rfl rfl (fun i l hil => by
  match i, hil with
  | 0, hil => cases hil; exact ⟨_, 1, 1, rfl, sr_new w e [s] _ rfl 1 rfl, Nat.le_refl _, by omega⟩)
 rw [hz] at h;exact h
set_option maxHeartbeats 8000000 in
set_option maxRecDepth 100000 in
theorem rowsP_any (d : Dv) (T : List Ti) (l : List Nt) (id : Int) (K : Nat) (w : World) (hT : TiersR w w.heap.size d.ta d.tn T) (hl : NotesR w w.heap.size d.na d.nn l) (hL : LightN T l) (hU : TierUp T) (hn : d.nn < 20) (htn : d.tn <= 1000000)
    (hend : ∀ x, curF l x K = none) (hK : K <= 1000000) (hz : TxtZ l) :
    Calls Tryz.prog 19 #[docV d, .int .i64 id] w fun e w' => RowsV (getN l id).isSome (rowsL T l id K) e w' /\ Below w.heap.size w w' := by
  have HG := hI fun (W : World) (hW : Below w.heap.size w W) (i : Int) => get_any d l i W (hl.on hW) (by omega)
  have HWO := hI fun (W : World) (hW : Below w.heap.size w W) => words_any d T l id K W (hT.on hW) (hl.on hW) hL hU hn htn hend hK
  have HSH := hI fun (W : World) (hW : Below w.heap.size w W) (i : Int) => shown_any d T l i W (hT.on hW) (hl.on hW) hn htn
  have hNl := hl.len;have hfz : ∀ i, SzS (formsL T l i) := fun i => ⟨by have := forms_len (T := T) (l := l) (id := i); omega, fun s hs => by have := forms_sz hz s hs; omega⟩
  have hgz : ∀ i, SzS (glossesL T l i) := fun i => ⟨by have := forms_len (T := T) (l := l) (id := i); rw [<- glosses_len] at this; omega, fun s hs => by have := glosses_sz hz s hs; omega⟩
  have hwl : (wordsL T l id K).length <= 20 := by have := wordsL_len (T := T) (l := l) (id := id) (K := K); omega
  clear hT hl hL hU hend hNl;unfold docV at HG HWO HSH;unfold docV;obtain ⟨rid, name, len, day, sa, sn, sc, ta, tn, tc, na, nn, nc⟩ := d;simp only at HG HWO HSH hn htn |-;unfold rowsL;have htx0 : textN l id = ((getN l id).getD nt0).text := rfl;rw [htx0];obtain ⟨bs0, hbs0⟩ : ∃ x, (getN l id).isSome = x := ⟨_, rfl⟩;obtain ⟨y0, hy0⟩ : ∃ x, (getN l id).getD nt0 = x := ⟨_, rfl⟩;obtain ⟨ws, hws⟩ : ∃ x, wordsL T l id K = x := ⟨_, rfl⟩;rw [hbs0, hy0, hws];rw [hws] at HWO hwl;have HGG := HG.out;obtain ⟨W0, hW0, hz0, hB0, hK0⟩ := doc_cells w rid name len day sa ta na sn sc tn tc nn nc;have HB := hI hB0;have HK := hI hK0;have HBW : Hid (∀ W, Below W0.heap.size W0 W -> Below w.heap.size w W) := fun W hW => HB.out.trans (hW.mono HB.out.size)
  have HG0 := hI (HGG W0 HB.out id);unfold getV noteV at HG0;rw [hbs0, hy0] at HG0;have HFZ := hI hfz;have HGZ := hI hgz;clear hB0 hK0 HGG hbs0 hy0 hws htx0 hfz hgz;go_enter Tryz.func19, Tryz.ntmps19
  go_upto_region 1 with fail
  (try rw [hW0])
  clear hW0;obtain ⟨k0, k1, k2, k3, k4, k5, k6⟩ := range7 (HK.out W0 (Below.refl _ _));go_wp2_with fail
  refine HG0.out.mono ?_;rintro e w1 ⟨rfl, hb1⟩;obtain ⟨p0, hp0⟩ : ∃ p0, w1.heap.size = p0 := ⟨_, rfl⟩;obtain ⟨W1, hW1⟩ : ∃ W1, w1.alloc (.cells #[.int .i64 y0.nid, .int .i64 y0.tier, .int .i64 y0.parent, .int .i64 y0.at1, .int .i64 y0.at2, .int .i64 y0.rank, .string y0.text] 58) = W1 := ⟨_, rfl⟩;have hz1 : W1.heap.size = p0 + 1 := by rw [<- hW1, <- hp0]; simp
  have HB1 : Hid (Below W0.heap.size W0 W1) := by rw [<- hW1]; exact hb1.alloc hb1.size _
  have HY0 : Hid (∀ W, Below W1.heap.size W1 W -> W.cell? ⟨p0, 6, none⟩ = some (.string y0.text)) := fun W hW => by
    rw [hW.cell (by show p0 < _; omega), <- hW1, <- hp0, World.cell?_alloc_new]; rfl
  clear hb1 k0 k1 k2 k3 k4 k5 k6 HG0;go_upto_region 2 with fail
  (try rw [hW1])
  (try rw [hp0])
  clear hW1 hp0
  cases bs0 with
  | false =>
    go_wp2;go_ret;exact ⟨⟨fun _ => rfl, fun h => (by cases h)⟩, HBW.out _ HB1.out⟩
  | true =>
    obtain ⟨k0, k1, k2, k3, k4, k5, k6⟩ := range7 (HK.out W1 HB1.out);have HWW := hI (HWO.out W1 (HBW.out _ HB1.out));go_wp2_with fail
    refine HWW.out.mono ?_;rintro e w2 ⟨v2, rfl, hO2, hb2⟩;obtain ⟨A2, c2, hv2, h2a, h2b, h2r⟩ := OwnI.form hO2;subst hv2;have HIR := hI h2r;have HB12 := hI hb2;have HB2 := hI (HB1.out.trans (hb2.mono HB1.out.size));have hz2 := hb2.size;clear hb2 k0 k1 k2 k3 k4 k5 k6 HWW HWO hO2 h2a h2b h2r;by_cases h0 : ws = []
    · subst h0
      have c6 := HY0.out w2 HB12.out;clear HY0;go_wp2;go_ret;have hb4 : Below w2.heap.size w2 (w2.alloc (.cells #[.string y0.text] 9)) := bR.alloc (Nat.le_refl _) _;refine ⟨⟨fun h => (by cases h), fun _ => ⟨w2.heap.size + 1, 1, 1, rfl, ?_, Nat.le_refl _, by omega⟩⟩, HBW.out _ (HB2.out.trans (((hb4.alloc hb4.size _)).mono HB2.out.size))⟩
      first
        | exact rowsC_one w2 y0.text _ _
        | (rw [if_pos rfl]; exact rowsC_one w2 y0.text _ _)
        | (rw [if_pos rfl, if_pos rfl]; exact rowsC_one w2 y0.text _ _)
    · have hne : 0 < ws.length := by
        cases ws with
        | nil => exact absurd rfl h0
        | cons a r => simp
      have hq : ((ws.length : Int) == 0) = false := beq_eq_false_iff_ne.2 (by omega);have hq2 : ¬ ((ws.length : Int) = 0) := by omega
      have hq3 : ¬ (ws.length = 0) := by omega
      have HWS := hI h0;obtain ⟨wl, hwlq⟩ : ∃ x, ws.length = x := ⟨_, rfl⟩;have HWL := hI hwlq;rw [hwlq] at hwl hne hq hq2 hq3 HIR |-;clear h0 hwlq;obtain ⟨rb, hrb⟩ : ∃ rb, w2.heap.size = rb := ⟨_, rfl⟩;obtain ⟨W3, hW3⟩ : ∃ W3, w2.alloc (.cells #[.slice none 0 0, .slice none 0 0, .slice none 0 0] 45) = W3 := ⟨_, rfl⟩;have hmk : ∀ u : World, (Instr.makeSlice 41 (.int .i64 3) (.int .i64 3)).run Tryz.prog u = .ok (.slice (some ⟨u.heap.size, 0, none⟩) 3 3) (u.alloc (.cells #[.slice none 0 0, .slice none 0 0, .slice none 0 0] 45)) := fun _ => by kernel_rfl
      have HR3 : Hid (RowN W3 (rb + 1) rb [[], [], []]) := by rw [<- hW3, <- hrb]; exact RowN.new w2 _ rfl
      have hb23 : Below w2.heap.size w2 W3 := by rw [<- hW3]; exact bR.alloc (Nat.le_refl _) _
      have HB23 : Hid (Below rb w2 W3) := by rw [<- hrb]; exact hb23
      have hz3 : W3.heap.size = rb + 1 := by rw [<- hW3, <- hrb]; simp
      go_upto_region 8 with fail
      (try rw [hW3])
      (try rw [hrb])
      clear hW3 hmk hb23;rw [hrb] at hz2;go_wp2_with fail
      go_loopw [9, 11, 12, 13, 14, 15, 16, 17, 39] (fun v9 v11 v12 v13 v14 v15 v16 v17 v39 wr => ∃ i : Nat, i <= wl /\ v39 = .int .i64 i /\ v9 = .bool (someB T l (ws.take i)) /\ Hid (RowN wr (rb + 1) rb [row1 T l (ws.take i), row2 T l (ws.take i), row3 T l (ws.take i)]) /\ Hid (Below rb w2 wr)) (fun _ _ _ _ _ _ _ _ v39 _ => wl - (intOf v39).toNat)
      case atStart => exact ⟨0, Nat.zero_le _, rfl, rfl, HR3.out, HB23.out⟩
      case round =>
        clear HR3 HB23 hz3;obtain ⟨i, hi, rfl, rfl, HR, HB4⟩ := hrel;obtain ⟨w4, hw4⟩ : ∃ w4, wr = w4 := ⟨_, rfl⟩;rw [hw4] at HR HB4 |-;clear hw4;have HB24 : Hid (Below w2.heap.size w2 w4) := by rw [hrb]; exact HB4.out
        have HB04 : Hid (Below W0.heap.size W0 w4) := HB2.out.trans (HB24.out.mono HB2.out.size);obtain ⟨sm, hsm⟩ : ∃ x, someB T l (ws.take i) = x := ⟨_, rfl⟩;rw [hsm];have hrl := HR.out.size;by_cases hlt : i < wl
        · have hiz : (i : Int) < (wl : Int) := by omega
          have hiA : (0 : Int) <= (i : Int) := by omega
          obtain ⟨bd, x, hA, hbb, hidx, hc⟩ := HIR.out.at_ hlt;subst hA;have hcw : w4.cell? (bd.add i) = some (.int .i64 x) := (HB24.out.cell (by rw [block_of_add]; exact hbb)).trans hc;have HLT := hI hlt;have HN1 : Hid (row1 T l (ws.take (i + 1)) = row1 T l (ws.take i) ++ [textN l x]) := map_next _ hidx;have HN2 : Hid (row2 T l (ws.take (i + 1)) = row2 T l (ws.take i) ++ [joinD (formsL T l x)]) := map_next _ hidx;have HN3 : Hid (row3 T l (ws.take (i + 1)) = row3 T l (ws.take i) ++ [joinD (glossesL T l x)]) := map_next _ hidx;have HSN : Hid (someB T l (ws.take (i + 1)) = (sm || decide (0 < (formsL T l x).length))) := by rw [<- hsm]; exact someB_next hidx
          have hl1 : (row1 T l (ws.take i)).length <= 20 := by unfold row1; rw [List.length_map, List.length_take]; omega
          have hl2 : (row2 T l (ws.take i)).length <= 20 := by unfold row2; rw [List.length_map, List.length_take]; omega
          have hl3 : (row3 T l (ws.take i)).length <= 20 := by unfold row3; rw [List.length_map, List.length_take]; omega
          obtain ⟨r1, hr1⟩ : ∃ x, row1 T l (ws.take i) = x := ⟨_, rfl⟩;obtain ⟨r2, hr2⟩ : ∃ x, row2 T l (ws.take i) = x := ⟨_, rfl⟩;obtain ⟨r3, hr3⟩ : ∃ x, row3 T l (ws.take i) = x := ⟨_, rfl⟩;rw [hr1] at HN1 HR hl1;rw [hr2] at HN2 HR hl2;rw [hr3] at HN3 HR hl3;have HGG := hI (HG.out w4 (HBW.out _ HB04.out) x);unfold getV noteV at HGG;have htx : textN l x = ((getN l x).getD nt0).text := rfl;rw [htx] at HN1;obtain ⟨y, hy⟩ : ∃ y, (getN l x).getD nt0 = y := ⟨_, rfl⟩;obtain ⟨bs, hbs⟩ : ∃ bs, (getN l x).isSome = bs := ⟨_, rfl⟩;rw [hy] at HGG HN1;rw [hbs] at HGG;have HFX := HFZ.out x;have HGX := HGZ.out x;have HSS0 := hI fun (W : World) (hW : Below w.heap.size w W) => HSH.out W hW x
          obtain ⟨fs, hfs⟩ : ∃ z, formsL T l x = z := ⟨_, rfl⟩;obtain ⟨gs, hgs⟩ : ∃ z, glossesL T l x = z := ⟨_, rfl⟩;rw [hfs] at HN2 HSN HSS0 HFX;rw [hgs] at HN3 HSS0 HGX;have HZ1 := hI HFX;have HZ2 := hI HGX;clear hc hidx hr1 hr2 hr3 hy hbs htx hfs hgs HFX HGX hsm;obtain ⟨k0, k1, k2, k3, k4, k5, k6⟩ := range7 (HK.out w4 HB04.out);go_wp2_with fail
          refine HGG.out.mono ?_;rintro e w5 ⟨rfl, hb5⟩;obtain ⟨pn, hpn⟩ : ∃ pn, w5.heap.size = pn := ⟨_, rfl⟩;obtain ⟨W5, hW5⟩ : ∃ W5, w5.alloc (.cells #[.int .i64 y.nid, .int .i64 y.tier, .int .i64 y.parent, .int .i64 y.at1, .int .i64 y.at2, .int .i64 y.rank, .string y.text] 58) = W5 := ⟨_, rfl⟩;have hz5 : W5.heap.size = pn + 1 := by rw [<- hW5, <- hpn]; simp
          have hb5' : Below w4.heap.size w4 W5 := by rw [<- hW5]; exact hb5.alloc hb5.size _
          have HY : Hid (∀ W, Below W5.heap.size W5 W -> W.cell? ⟨pn, 6, none⟩ = some (.string y.text)) := fun W hW => by
            rw [hW.cell (by show pn < _; omega), <- hW5, <- hpn, World.cell?_alloc_new]; rfl
          have HR5 := hI (HR.out.on hb5');have HB25 : Hid (Below w2.heap.size w2 W5) := HB24.out.trans (hb5'.mono HB24.out.size);have HB05 : Hid (Below W0.heap.size W0 W5) := HB2.out.trans (HB25.out.mono HB2.out.size);clear hb5 hb5' k0 k1 k2 k3 k4 k5 k6 HGG hcw HR;go_upto_region 13 with fail
          (try rw [hW5])
          (try rw [hpn])
          clear hW5 hpn;obtain ⟨k0, k1, k2, k3, k4, k5, k6⟩ := range7 (HK.out W5 HB05.out);have HSS := hI (HSS0.out W5 (HBW.out _ HB05.out));clear HSS0
          cases sm with
          | true =>
            go_wp2_with fail
            refine HSS.out.mono ?_;rintro e w6 ⟨v1, v2, rfl, hO1, hO2, hb6⟩;obtain ⟨A1, c1, hv1, h1a, h1b, h1r⟩ := OwnS.form hO1;obtain ⟨A2, c2, hv2, h2a, h2b, h2r⟩ := OwnS.form hO2;subst hv1;subst hv2;have HC1 := hI h1a;have HC2 := hI h2a;have HS1 : Hid (∀ W, Below w6.heap.size w6 W -> SR W W.heap.size A1 fs.length fs) := fun W hW => Reads.on h1r hW
            have HS2 : Hid (∀ W, Below w6.heap.size w6 W -> SR W W.heap.size A2 gs.length gs) := fun W hW => Reads.on h2r hW
            have HY6 : Hid (∀ W, Below w6.heap.size w6 W -> W.cell? ⟨pn, 6, none⟩ = some (.string y.text)) := fun W hW => HY.out W (hb6.trans (hW.mono hb6.size))
            have HR6 := hI (HR5.out.on hb6);have HB26 : Hid (Below w2.heap.size w2 w6) := HB25.out.trans (hb6.mono HB25.out.size);clear hO1 hO2 h1a h1b h1r h2a h2b h2r hb6 k0 k1 k2 k3 k4 k5 k6 HSS;go_upto_region 15 with fail
            refine wp_region_told [Told.is (.pointer (some ⟨pn, 6, none⟩)), Told.is (.string y.text), Told.is (.slice A1 fs.length c1), Told.is (.string (joinD fs)), Told.is (.slice A2 gs.length c2), Told.is (.string (joinD gs)), Told.such (fun v W => OwnS W w6.heap.size v [y.text, joinD fs, joinD gs]) (fun v W W' h hb => OwnS.on h hb), Told.is (.int .i64 3), Told.is (.int .i64 0)] (by kernel_rfl) (by kernel_rfl) ?_ ?_
            · refine And.intro (fun w1 vals hB hd K hK => ?_) ?_
              · clear hd
                simp only [putAll, Act.put, pS] at hK |-;refine gwp_none rfl ?_;go_simp;exact hK _ _ rfl bR
              refine And.intro (fun w1 vals hB hd K hK => ?_) ?_
              · have e0 := tI (hd 0 rfl) rfl
                clear hd;simp only [putAll, Act.put, pS] at hK |-;simp only [e0] at hK |-;clear e0;refine gwp_none rfl ?_;have c6 : w1.cell? ⟨pn, 6, none⟩ = some (.string y.text) := HY6.out w1 hB;go_simp;exact hK _ _ rfl bR
              refine And.intro (fun w1 vals hB hd K hK => ?_) ?_
              · clear hd
                simp only [putAll, Act.put, pS] at hK |-;refine gwp_none rfl ?_;go_simp;exact hK _ _ rfl bR
              refine And.intro (fun w1 vals hB hd K hK => ?_) ?_
              · have e2 := tI (hd 2 rfl) rfl
                clear hd;simp only [putAll, Act.put, pS] at hK |-;simp only [e2] at hK |-;clear e2;refine gwp_none rfl ?_;go_simp;refine (joinDash_any A1 fs.length c1 fs w1 (HS1.out w1 hB) HZ1.out HC1.out).mono ?_;rintro e w4 ⟨rfl, hb4⟩;exact hK _ _ rfl hb4
              refine And.intro (fun w1 vals hB hd K hK => ?_) ?_
              · clear hd
                simp only [putAll, Act.put, pS] at hK |-;refine gwp_none rfl ?_;go_simp;exact hK _ _ rfl bR
              refine And.intro (fun w1 vals hB hd K hK => ?_) ?_
              · have e4 := tI (hd 4 rfl) rfl
                clear hd;simp only [putAll, Act.put, pS] at hK |-;simp only [e4] at hK |-;clear e4;refine gwp_none rfl ?_;go_simp;refine (joinDash_any A2 gs.length c2 gs w1 (HS2.out w1 hB) HZ2.out HC2.out).mono ?_;rintro e w4 ⟨rfl, hb4⟩;exact hK _ _ rfl hb4
              refine And.intro (fun w1 vals hB hd K hK => ?_) ?_
              · have e1 := tI (hd 1 rfl) rfl
                have e3 := tI (hd 3 rfl) rfl;have e5 := tI (hd 5 rfl) rfl;clear hd;simp only [putAll, Act.put, pS] at hK |-;simp only [e1, e3, e5] at hK |-;clear e1 e3 e5;refine gwp_none rfl ?_;go_simp;exact hK _ _ (own_base (strs_made w1 [y.text, joinD fs, joinD gs] _ rfl 3 rfl (by show 3 <= _; omega)) hB.size) (bR.alloc (Nat.le_refl _) _)
              refine And.intro (fun w1 vals hB hd K hK => ?_) ?_
              · have p6 := told_at (hd 6 rfl) rfl
                simp only [Told.holds] at p6;clear hd;obtain ⟨x6, hx6⟩ : ∃ x, vals 6 = x := ⟨_, rfl⟩;rw [hx6] at p6;simp only [putAll, Act.put, pS] at hK |-;simp only [hx6] at hK |-;clear hx6;refine gwp_none rfl ?_;obtain ⟨A6, c6, rfl, _, _, _⟩ := OwnS.form p6;go_simp;exact hK _ _ rfl bR
              refine And.intro (fun w1 vals hB hd K hK => ?_) ?_
              · clear hd
                simp only [putAll, Act.put, pS] at hK |-;refine gwp_none rfl ?_;go_simp;exact hK _ _ rfl bR
              exact trivial
            · intro w1 vals hB hd
              have p6 := told_at (hd 6 (by decide)) rfl;simp only [Told.holds] at p6;have e7 := tI (hd 7 (by decide)) rfl;have e8 := tI (hd 8 (by decide)) rfl;obtain ⟨x6, hx6⟩ : ∃ x, vals 6 = x := ⟨_, rfl⟩;rw [hx6] at p6;clear hd;simp only [putAll, Act.put, pS];simp only [hx6, e7, e8];clear hx6 e7 e8;obtain ⟨A6, c6, hv6, h6a, h6b, h6r⟩ := OwnS.form p6;have HO6 := hI p6;have HR7 := hI (HR6.out.on hB);have HB27 : Hid (Below w2.heap.size w2 w1) := HB26.out.trans (hB.mono HB26.out.size)
              have HRB6 : Hid (∀ (j : Nat) v, j < 3 -> w1.cell? ⟨rb, j, none⟩ = some v -> Apart x6 v) := fun j v hj hv b hb he => by
                have h1 := (p6.lt b hb).1;have h2 := HR6.out.block (i := j) hj (by rw [<- hv]; exact (hB.cell (by exact HR6.out.size)).symm) b he;omega
              subst hv6;have HG7 : Hid (RowG w1 (rb + 1) rb [r1, r2, r3] (.slice A6 3 c6) w6.heap.size [y.text, joinD fs, joinD gs]) := RowG.new HR7.out HO6.out HR6.out.size HRB6.out;have hz7 := HB27.out.size;clear p6 HRB6 HR7 HO6 h6a h6b h6r hB;(try go_wp2_with fail)
              go_loopw [16, 17, 69] (fun v16 v17 v69 wi => ∃ j : Nat, j <= 3 /\ v69 = .int .i64 j /\ Hid (RowG wi (rb + 1) rb (upto [r1, r2, r3] [y.text, joinD fs, joinD gs] j) (.slice A6 3 c6) w6.heap.size [y.text, joinD fs, joinD gs]) /\ Hid (Below rb w2 wi)) (fun _ _ v69 _ => 3 - (intOf v69).toNat)
              case atStart => exact ⟨0, by omega, rfl, HG7.out, (by rw [<- hrb]; exact HB27.out)⟩
              case round =>
                clear HG7;obtain ⟨j, hj, rfl, HG8, HB8⟩ := hrel;obtain ⟨w8, hw8⟩ : ∃ w8, wr = w8 := ⟨_, rfl⟩;rw [hw8] at HG8 HB8 |-;clear hw8;have hrl8 : rb < w8.heap.size := HG8.out.rowN.size;by_cases hjt : j < 3
                · have hjz : (j : Int) < 3 := by omega
                  have hjA : (0 : Int) <= (j : Int) := by omega
                  obtain ⟨s, hs⟩ : ∃ s, ([y.text, joinD fs, joinD gs] : List ByteArray)[j]? = some s := ⟨_, List.getElem?_eq_getElem hjt⟩;obtain ⟨B, hB1, hB2, hB3⟩ := upto_next [r1, r2, r3] [y.text, joinD fs, joinD gs] j s rfl hs
                  have hBl : B.length <= 20 := by
                    rw [hB2];match j, hjt with
                    | 0, _ => exact hl1
                    | 1, _ => exact hl2
                    | 2, _ => exact hl3
                  have HUP := hI hB3;have HJT := hI hjt;obtain ⟨v, hc, hf, hov, hstep⟩ := HG8.out.at_ hB1;obtain ⟨Aj, cj, hvj, hja, hjb, hjr⟩ := OwnS.form hov;subst hvj;have HOV := hI hov;have HSTEP := hI hstep;obtain ⟨A9, c9, hv9, _, _, h9r⟩ := OwnS.form HG8.out.own;injection hv9 with hA9 _ hc9
                  rw [<- hA9] at h9r;obtain ⟨ad, s', hAd, hab, hs2, hcs⟩ := h9r.at_ (k := j) hjt;subst hAd;rw [hs] at hs2
                  cases hs2;clear hs hB1 hB2 hB3 hov hstep hA9 hc9 h9r hjr hab;go_wp2_with (at_builtin; refine wpList_app1 rfl (.tmp 79) (.tmp 81) 45 rfl (rb + 1) 9 16 (.string .empty) info_string rfl Tryz.underlying45 rfl HOV.out rfl rfl (by omega) (by omega) (by omega) ?_; rintro v9' w9 hown9 hb9 hs9 hk9; obtain ⟨A10, c10, hv10, _, _, _⟩ := own_form hown9; subst hv10; obtain ⟨hf9, hc9', hR9⟩ := HSTEP.out _ w9 s hown9 hb9 (by omega) hk9; have HR9 := hI hR9; clear hR9 hk9 hown9)
                  have HBE := hI ((HB8.out.trans (hb9.mono (by omega))).setCell (p := ⟨rb, j, none⟩) (Nat.le_refl _) (.slice A10 (B.length + 1) c10));rw [<- HUP.out] at HR9;clear hb9;go_wp2;go_roundw
                  case rel =>
                    first
                      | exact ⟨j + 1, HJT.out, by go_num, HR9, HBE⟩
                      | ((repeat apply Exists.intro); refine ⟨?_, rfl⟩; exact ⟨j + 1, HJT.out, by go_num, HR9, HBE⟩)
                  case measure => have := HJT.out; simp [intOf]; omega
                · obtain rfl : j = 3 := by omega
                  have HRE : Hid (RowN w8 (rb + 1) rb [r1 ++ [y.text], r2 ++ [joinD fs], r3 ++ [joinD gs]]) := HG8.out.rowN;rw [<- HN1.out, <- HN2.out, <- HN3.out] at HRE;go_wp2;go_roundw
                  case rel =>
                    first
                      | exact ⟨i + 1, HLT.out, by go_num, by rw [HSN.out]; simp, HRE, HB8⟩
                      | ((repeat apply Exists.intro); refine ⟨?_, rfl⟩; exact ⟨i + 1, HLT.out, by go_num, by rw [HSN.out]; simp, HRE, HB8⟩)
                  case measure => have := HLT.out; simp [intOf]; omega
          | false =>
            go_wp2_with fail
            refine HSS.out.mono ?_;rintro e w6 ⟨v1, v2, rfl, hO1, hO2, hb6⟩;obtain ⟨A1, c1, hv1, h1a, h1b, h1r⟩ := OwnS.form hO1;obtain ⟨A2, c2, hv2, h2a, h2b, h2r⟩ := OwnS.form hO2;subst hv1;subst hv2;have HC1 := hI h1a;have HC2 := hI h2a;have HS1 : Hid (∀ W, Below w6.heap.size w6 W -> SR W W.heap.size A1 fs.length fs) := fun W hW => Reads.on h1r hW
            have HS2 : Hid (∀ W, Below w6.heap.size w6 W -> SR W W.heap.size A2 gs.length gs) := fun W hW => Reads.on h2r hW
            have HY6 : Hid (∀ W, Below w6.heap.size w6 W -> W.cell? ⟨pn, 6, none⟩ = some (.string y.text)) := fun W hW => HY.out W (hb6.trans (hW.mono hb6.size))
            have HR6 := hI (HR5.out.on hb6);have HB26 : Hid (Below w2.heap.size w2 w6) := HB25.out.trans (hb6.mono HB25.out.size);clear hO1 hO2 h1a h1b h1r h2a h2b h2r hb6 k0 k1 k2 k3 k4 k5 k6 HSS;go_upto_region 15 with fail
            refine wp_region_told [Told.is (.pointer (some ⟨pn, 6, none⟩)), Told.is (.string y.text), Told.is (.slice A1 fs.length c1), Told.is (.string (joinD fs)), Told.is (.slice A2 gs.length c2), Told.is (.string (joinD gs)), Told.such (fun v W => OwnS W w6.heap.size v [y.text, joinD fs, joinD gs]) (fun v W W' h hb => OwnS.on h hb), Told.is (.int .i64 3), Told.is (.int .i64 0)] (by kernel_rfl) (by kernel_rfl) ?_ ?_
            · refine And.intro (fun w1 vals hB hd K hK => ?_) ?_
              · clear hd
                simp only [putAll, Act.put, pS] at hK |-;refine gwp_none rfl ?_;go_simp;exact hK _ _ rfl bR
              refine And.intro (fun w1 vals hB hd K hK => ?_) ?_
              · have e0 := tI (hd 0 rfl) rfl
                clear hd;simp only [putAll, Act.put, pS] at hK |-;simp only [e0] at hK |-;clear e0;refine gwp_none rfl ?_;have c6 : w1.cell? ⟨pn, 6, none⟩ = some (.string y.text) := HY6.out w1 hB;go_simp;exact hK _ _ rfl bR
              refine And.intro (fun w1 vals hB hd K hK => ?_) ?_
              · clear hd
                simp only [putAll, Act.put, pS] at hK |-;refine gwp_none rfl ?_;go_simp;exact hK _ _ rfl bR
              refine And.intro (fun w1 vals hB hd K hK => ?_) ?_
              · have e2 := tI (hd 2 rfl) rfl
                clear hd;simp only [putAll, Act.put, pS] at hK |-;simp only [e2] at hK |-;clear e2;refine gwp_none rfl ?_;go_simp;refine (joinDash_any A1 fs.length c1 fs w1 (HS1.out w1 hB) HZ1.out HC1.out).mono ?_;rintro e w4 ⟨rfl, hb4⟩;exact hK _ _ rfl hb4
              refine And.intro (fun w1 vals hB hd K hK => ?_) ?_
              · clear hd
                simp only [putAll, Act.put, pS] at hK |-;refine gwp_none rfl ?_;go_simp;exact hK _ _ rfl bR
              refine And.intro (fun w1 vals hB hd K hK => ?_) ?_
              · have e4 := tI (hd 4 rfl) rfl
                clear hd;simp only [putAll, Act.put, pS] at hK |-;simp only [e4] at hK |-;clear e4;refine gwp_none rfl ?_;go_simp;refine (joinDash_any A2 gs.length c2 gs w1 (HS2.out w1 hB) HZ2.out HC2.out).mono ?_;rintro e w4 ⟨rfl, hb4⟩;exact hK _ _ rfl hb4
              refine And.intro (fun w1 vals hB hd K hK => ?_) ?_
              · have e1 := tI (hd 1 rfl) rfl
                have e3 := tI (hd 3 rfl) rfl;have e5 := tI (hd 5 rfl) rfl;clear hd;simp only [putAll, Act.put, pS] at hK |-;simp only [e1, e3, e5] at hK |-;clear e1 e3 e5;refine gwp_none rfl ?_;go_simp;exact hK _ _ (own_base (strs_made w1 [y.text, joinD fs, joinD gs] _ rfl 3 rfl (by show 3 <= _; omega)) hB.size) (bR.alloc (Nat.le_refl _) _)
              refine And.intro (fun w1 vals hB hd K hK => ?_) ?_
              · have p6 := told_at (hd 6 rfl) rfl
                simp only [Told.holds] at p6;clear hd;obtain ⟨x6, hx6⟩ : ∃ x, vals 6 = x := ⟨_, rfl⟩;rw [hx6] at p6;simp only [putAll, Act.put, pS] at hK |-;simp only [hx6] at hK |-;clear hx6;refine gwp_none rfl ?_;obtain ⟨A6, c6, rfl, _, _, _⟩ := OwnS.form p6;go_simp;exact hK _ _ rfl bR
              refine And.intro (fun w1 vals hB hd K hK => ?_) ?_
              · clear hd
                simp only [putAll, Act.put, pS] at hK |-;refine gwp_none rfl ?_;go_simp;exact hK _ _ rfl bR
              exact trivial
            · intro w1 vals hB hd
              have p6 := told_at (hd 6 (by decide)) rfl;simp only [Told.holds] at p6;have e7 := tI (hd 7 (by decide)) rfl;have e8 := tI (hd 8 (by decide)) rfl;obtain ⟨x6, hx6⟩ : ∃ x, vals 6 = x := ⟨_, rfl⟩;rw [hx6] at p6;clear hd;simp only [putAll, Act.put, pS];simp only [hx6, e7, e8];clear hx6 e7 e8;obtain ⟨A6, c6, hv6, h6a, h6b, h6r⟩ := OwnS.form p6;have HO6 := hI p6;have HR7 := hI (HR6.out.on hB);have HB27 : Hid (Below w2.heap.size w2 w1) := HB26.out.trans (hB.mono HB26.out.size)
              have HRB6 : Hid (∀ (j : Nat) v, j < 3 -> w1.cell? ⟨rb, j, none⟩ = some v -> Apart x6 v) := fun j v hj hv b hb he => by
                have h1 := (p6.lt b hb).1;have h2 := HR6.out.block (i := j) hj (by rw [<- hv]; exact (hB.cell (by exact HR6.out.size)).symm) b he;omega
              subst hv6;have HG7 : Hid (RowG w1 (rb + 1) rb [r1, r2, r3] (.slice A6 3 c6) w6.heap.size [y.text, joinD fs, joinD gs]) := RowG.new HR7.out HO6.out HR6.out.size HRB6.out;have hz7 := HB27.out.size;clear p6 HRB6 HR7 HO6 h6a h6b h6r hB;(try go_wp2_with fail)
              go_loopw [16, 17, 69] (fun v16 v17 v69 wi => ∃ j : Nat, j <= 3 /\ v69 = .int .i64 j /\ Hid (RowG wi (rb + 1) rb (upto [r1, r2, r3] [y.text, joinD fs, joinD gs] j) (.slice A6 3 c6) w6.heap.size [y.text, joinD fs, joinD gs]) /\ Hid (Below rb w2 wi)) (fun _ _ v69 _ => 3 - (intOf v69).toNat)
              case atStart => exact ⟨0, by omega, rfl, HG7.out, (by rw [<- hrb]; exact HB27.out)⟩
              case round =>
                clear HG7;obtain ⟨j, hj, rfl, HG8, HB8⟩ := hrel;obtain ⟨w8, hw8⟩ : ∃ w8, wr = w8 := ⟨_, rfl⟩;rw [hw8] at HG8 HB8 |-;clear hw8;have hrl8 : rb < w8.heap.size := HG8.out.rowN.size;by_cases hjt : j < 3
                · have hjz : (j : Int) < 3 := by omega
                  have hjA : (0 : Int) <= (j : Int) := by omega
                  obtain ⟨s, hs⟩ : ∃ s, ([y.text, joinD fs, joinD gs] : List ByteArray)[j]? = some s := ⟨_, List.getElem?_eq_getElem hjt⟩;obtain ⟨B, hB1, hB2, hB3⟩ := upto_next [r1, r2, r3] [y.text, joinD fs, joinD gs] j s rfl hs
                  have hBl : B.length <= 20 := by
                    rw [hB2];match j, hjt with
                    | 0, _ => exact hl1
                    | 1, _ => exact hl2
                    | 2, _ => exact hl3
                  have HUP := hI hB3;have HJT := hI hjt;obtain ⟨v, hc, hf, hov, hstep⟩ := HG8.out.at_ hB1;obtain ⟨Aj, cj, hvj, hja, hjb, hjr⟩ := OwnS.form hov;subst hvj;have HOV := hI hov;have HSTEP := hI hstep;obtain ⟨A9, c9, hv9, _, _, h9r⟩ := OwnS.form HG8.out.own;injection hv9 with hA9 _ hc9
                  rw [<- hA9] at h9r;obtain ⟨ad, s', hAd, hab, hs2, hcs⟩ := h9r.at_ (k := j) hjt;subst hAd;rw [hs] at hs2
                  cases hs2;clear hs hB1 hB2 hB3 hov hstep hA9 hc9 h9r hjr hab;go_wp2_with (at_builtin; refine wpList_app1 rfl (.tmp 79) (.tmp 81) 45 rfl (rb + 1) 9 16 (.string .empty) info_string rfl Tryz.underlying45 rfl HOV.out rfl rfl (by omega) (by omega) (by omega) ?_; rintro v9' w9 hown9 hb9 hs9 hk9; obtain ⟨A10, c10, hv10, _, _, _⟩ := own_form hown9; subst hv10; obtain ⟨hf9, hc9', hR9⟩ := HSTEP.out _ w9 s hown9 hb9 (by omega) hk9; have HR9 := hI hR9; clear hR9 hk9 hown9)
                  have HBE := hI ((HB8.out.trans (hb9.mono (by omega))).setCell (p := ⟨rb, j, none⟩) (Nat.le_refl _) (.slice A10 (B.length + 1) c10));rw [<- HUP.out] at HR9;clear hb9;go_wp2;go_roundw
                  case rel =>
                    first
                      | exact ⟨j + 1, HJT.out, by go_num, HR9, HBE⟩
                      | ((repeat apply Exists.intro); refine ⟨?_, rfl⟩; exact ⟨j + 1, HJT.out, by go_num, HR9, HBE⟩)
                  case measure => have := HJT.out; simp [intOf]; omega
                · obtain rfl : j = 3 := by omega
                  have HRE : Hid (RowN w8 (rb + 1) rb [r1 ++ [y.text], r2 ++ [joinD fs], r3 ++ [joinD gs]]) := HG8.out.rowN;rw [<- HN1.out, <- HN2.out, <- HN3.out] at HRE;go_wp2;go_roundw
                  case rel =>
                    first
                      | exact ⟨i + 1, HLT.out, by go_num, by rw [HSN.out]; simp, HRE, HB8⟩
                      | ((repeat apply Exists.intro); refine ⟨?_, rfl⟩; exact ⟨i + 1, HLT.out, by go_num, by rw [HSN.out]; simp, HRE, HB8⟩)
                  case measure => have := HLT.out; simp [intOf]; omega
        · obtain rfl : i = wl := by omega
          have hiz : ¬ (i : Int) < (i : Int) := by omega
          rw [<- HWL.out, List.take_length] at HR hsm;have hrC3 := HR.out.rowsC (n := 3) (by show 3 <= 3; omega);have hrC1 := HR.out.rowsC (n := 1) (by show 1 <= 3; omega);have HC3 := hI hrC3;have HC1 := hI hrC1;have HSM := hI hsm;clear hrC3 hrC1 hsm
          cases sm with
          | true =>
            go_wp2;go_ret;refine ⟨⟨fun h => (by cases h), fun _ => ⟨rb, 3, 3, rfl, ?_, Nat.le_refl _, by omega⟩⟩, HBW.out _ HB04.out⟩;(try rw [if_pos rfl, if_neg HWS.out])
            unfold rowsW;rw [if_pos HSM.out];exact HC3.out
          | false =>
            go_wp2;go_ret;refine ⟨⟨fun h => (by cases h), fun _ => ⟨rb, 1, 3, rfl, ?_, by omega, by omega⟩⟩, HBW.out _ HB04.out⟩;(try rw [if_pos rfl, if_neg HWS.out])
            unfold rowsW;rw [if_neg (by rw [HSM.out]; simp)];exact HC1.out
end
section
open Go.RowKit
def SegsR (w : World) (B : Nat) (A : Option Addr) (n : Nat) (S : List (ByteArray × Int)) : Prop :=
 S.length = n /\ (0 < n -> ∃ ad, A = some ad /\ ad.block < B /\ ∀ k x, S[k]? = some x -> w.cell? (ad.add (k * 2)) = some (.string x.1) /\ w.cell? (ad.add (k * 2 + 1)) = some (.int .i64 x.2))
theorem SegsR.below {w w' : World} {B : Nat} {A : Option Addr} {n : Nat} {S : List (ByteArray × Int)} (h : SegsR w B A n S) (hb : Below B w w') : SegsR w' B A n S :=
 ⟨h.1, fun hn => by
  obtain ⟨ad, e, hlt, hc⟩ := h.2 hn;refine ⟨ad, e, hlt, fun k x hx => ?_⟩;obtain ⟨h1, h2⟩ := hc k x hx;exact ⟨(hb.cell (by rw [block_of_add]; exact hlt)).trans h1, (hb.cell (by rw [block_of_add]; exact hlt)).trans h2⟩⟩
theorem SegsR.more {w : World} {B B' : Nat} {A : Option Addr} {n : Nat} {S : List (ByteArray × Int)} (h : SegsR w B A n S) (hB : B <= B') : SegsR w B' A n S :=
 ⟨h.1, fun hn => by
  obtain ⟨ad, e, hlt, hc⟩ := h.2 hn;exact ⟨ad, e, by omega, hc⟩⟩
def segName (S : List (ByteArray × Int)) (i : Nat) : ByteArray := (S.getD i (⟨#[]⟩, 0)).1
def segFeat (S : List (ByteArray × Int)) (i : Nat) : Int := (S.getD i (⟨#[]⟩, 0)).2
theorem field_at {w : World} {p : Addr} {i : Nat} {v : Value} (hi : 0 < i) (h : w.cell? (p.add i) = some v) : w.cell? ⟨p.block, p.off + i, none⟩ = some v := by
 unfold Addr.add at h;rw [if_neg (by omega)] at h;exact h
theorem SegsR.at_ {w : World} {B : Nat} {A : Option Addr} {n k : Nat} {S : List (ByteArray × Int)} (h : SegsR w B A n S) (hk : k < n) :
  ∃ ad, A = some ad /\ ad.block < B /\ w.cell? (ad.add (k * 2)) = some (.string (segName S k)) /\ w.cell? ⟨(ad.add (k * 2)).block, (ad.add (k * 2)).off + 1, none⟩ = some (.int .i64 (segFeat S k)) /\ w.cell? (ad.add (k * 2 + 1)) = some (.int .i64 (segFeat S k)) := by
 obtain ⟨ad, e, hlt, hc⟩ := h.2 (by omega);have hl : k < S.length := by rw [h.1]; exact hk
 obtain ⟨h1, h2⟩ := hc k S[k] (List.getElem?_eq_getElem hl);refine ⟨ad, e, hlt, ?_, ?_, ?_⟩
 ·rw [h1]; simp [segName, List.getD, hl]
 ·refine field_at (by omega) ?_;rw [add_of_add, h2]; simp [segFeat, List.getD, hl]
 ·rw [h2]; simp [segFeat, List.getD, hl]
end
section
open Go.RowKit Ru Lay
def pairV (l : List (Nat × Nat)) : List Value := l.flatMap fun p => [Value.int .i64 (p.1 : Int), Value.int .i64 (p.2 : Int)]
theorem pairV_app (l : List (Nat × Nat)) (p : Nat × Nat) : pairV (l ++ [p]) = pairV l ++ [.int .i64 (p.1 : Int), .int .i64 (p.2 : Int)] := by unfold pairV; simp
theorem pairV_len (l : List (Nat × Nat)) : (pairV l).length = l.length * 2 := by
 induction l with
 | nil => rfl
 | cons p t ih =>
  show (List.length ([_, _] ++ pairV t)) = _;rw [List.length_append, ih];simp
  omega
theorem pairV_at {l : List (Nat × Nat)} {k : Nat} {p : Nat × Nat} (h : l[k]? = some p) : (pairV l)[k * 2]? = some (.int .i64 (p.1 : Int)) /\ (pairV l)[k * 2 + 1]? = some (.int .i64 (p.2 : Int)) := by
 induction l generalizing k with
 | nil => simp at h
 | cons q t ih =>
  cases k with
  | zero =>
   simp at h
   subst h;exact ⟨rfl, rfl⟩
  | succ k =>
   rw [List.getElem?_cons_succ] at h;obtain ⟨h1, h2⟩ := ih h;have e : pairV (q :: t) = .int .i64 (q.1 : Int) :: .int .i64 (q.2 : Int) :: pairV t := rfl;rw [e, show (k + 1) * 2 = k * 2 + 1 + 1 by omega];exact ⟨h1, h2⟩
theorem info_pair : (Tryz.prog.info? 108).map (fun i => (i.zero, i.size, i.bytes)) = some (some (.agg #[.int .i64 0, .int .i64 0]), 2, 16) := by kernel_rfl
def OwnG (w : World) (base : Nat) (v : Value) (l : List (Nat × Nat)) : Prop := w.ownsRow base 108 2 v l.length (pairV l)
theorem OwnG.nil (w : World) (base : Nat) : OwnG w base (.slice none 0 0) [] := World.ownsRow_nil _ _ _ _
theorem OwnG.on {w w' : World} {base : Nat} {v : Value} {l : List (Nat × Nat)} (h : OwnG w base v l) (hb : Below w.heap.size w w') : OwnG w' base v l := own_below h hb
def GR (w : World) (B : Nat) (A : Option Addr) (n : Nat) (l : List (Nat × Nat)) : Prop := Reads w B 2 A n (pairV l) /\ l.length = n
theorem GR.on {w w' : World} {n : Nat} {A : Option Addr} {l : List (Nat × Nat)} (h : GR w w.heap.size A n l) (hb : Below w.heap.size w w') : GR w' w'.heap.size A n l := ⟨Reads.on h.1 hb, h.2⟩
theorem GR.at_ {w : World} {B n k : Nat} {A : Option Addr} {l : List (Nat × Nat)} (h : GR w B A n l) (hk : k < n) :
  ∃ ad p, A = some ad /\ ad.block < B /\ l[k]? = some p /\ w.cell? (ad.add (k * 2)) = some (.int .i64 (p.1 : Int)) /\ w.cell? ⟨(ad.add (k * 2)).block, (ad.add (k * 2)).off + 1, none⟩ = some (.int .i64 (p.2 : Int)) := by
 obtain ⟨ad, e, hb, hc⟩ := h.1.2 (by omega);have hlt : k < l.length := by have := h.2; omega
 have hp : l[k]? = some l[k] := List.getElem?_eq_getElem hlt;obtain ⟨h1, h2⟩ := pairV_at hp;refine ⟨ad, l[k], e, hb, hp, hc _ _ h1, field_at (by omega) ?_⟩;rw [add_of_add];exact hc _ _ h2
theorem OwnG.form {w : World} {base : Nat} {v : Value} {l : List (Nat × Nat)} (h : OwnG w base v l) : ∃ A c, v = .slice A l.length c /\ GR w w.heap.size A l.length l := by
 rcases h.2 with ⟨rfl, h0⟩ | ⟨g, cap, cur, rfl, hg, hh, hn, hm, hs, ht⟩
 ·rw [h0];exact ⟨none, 0, rfl, ⟨by rw [pairV_len, h0], fun hh => by omega⟩, h0⟩
 ·exact ⟨some ⟨g, 0, none⟩, cap, rfl, ⟨h.1, fun _ => ⟨_, rfl, (h.lt g rfl).2, h.cells (g := g) rfl⟩⟩, rfl⟩
theorem OwnG.last {w : World} {base : Nat} {v : Value} {l : List (Nat × Nat)} {p : Nat × Nat} (h : OwnG w base v (l ++ [p])) :
  ∃ g cap, v = .slice (some ⟨g, 0, none⟩) (l.length + 1) cap /\ base <= g /\ g < w.heap.size /\ w.frozen? ⟨g, l.length * 2 + 1, none⟩ = false /\ w.cell? ⟨g, l.length * 2 + 1, none⟩ = some (.int .i64 (p.2 : Int)) /\ ∀ x : Nat,
   OwnG (w.setCell ⟨g, l.length * 2 + 1, none⟩ (.int .i64 (x : Int))) base v (l ++ [(p.1, x)]) /\ Below base w (w.setCell ⟨g, l.length * 2 + 1, none⟩ (.int .i64 (x : Int))) := by
 have h0 := h;unfold OwnG at h0;rw [List.length_append, List.length_singleton] at h0;obtain ⟨g, cap, rfl, h1, h2⟩ := World.ownsRow.form h0 (by omega);refine ⟨g, cap, rfl, h1, h2, World.ownsRow.frozenAt h0 _, ?_, fun x => ?_⟩
 ·rw [World.ownsRow.cellAt h0 _ (by omega)];exact (pairV_at (k := l.length) (p := p) (by simp)).2
 ·have hs := World.ownsRow.stored h0 (l.length * 2 + 1) (.int .i64 (x : Int))
  have e1 : (pairV (l ++ [p])).set (l.length * 2 + 1) (.int .i64 (x : Int)) = pairV (l ++ [(p.1, x)]) := by
   rw [pairV_app, pairV_app, List.set_append_right _ _ (by rw [pairV_len]; omega), pairV_len];simp
  rw [e1] at hs;refine ⟨?_, bR.grown hs.2 (Nat.le_of_lt (Nat.lt_of_le_of_lt h1 h2)) fun k hk => by cases hk; exact h1⟩;show World.ownsRow _ _ _ _ _ _ _;rw [List.length_append, List.length_singleton];exact hs.1
theorem wpList_app2 {P : Program} {ops : Array Oper} {rest : List Oper} {o : Oper} {a : Act} {Q : Exit -> Act -> World -> Prop} {w0 : World} {x y : Value} (hgd : o.guard = none) (s yy : Operand) (t : TypeId)
  (ho : o.op = .call { callee := .builtin .append, args := #[s, yy], argTypes := #[t, t] })
  (base : Nat) (e : TypeId) (bytes : Nat) (z : Value) (hinfo : (P.info? e).map (fun i => (i.zero, i.size, i.bytes)) = some (some z, 2, bytes)) (hzc : z.cells.size = 2) (ht : P.underlying t = some (.slice e))
  {v : Value} {n : Nat} {xs : List Value} (hs : a.eval s = v) (hown : w0.ownsRow base e 2 v n xs) (hy : a.eval yy = .slice (some ⟨w0.heap.size, 0, none⟩) 1 1) (h1 : x.oneCell' = true) (h2 : y.oneCell' = true)
  (h63 : n + 1 <= 9223372036854775807) (hbytes : (n + 1) * bytes <= 140737488355328) (hbase : base <= w0.heap.size)
  (h : ∀ v' w', w'.ownsRow base e 2 v' (n + 1) (xs ++ [x, y]) -> Below base w0 w' -> wpList P ops Q rest (a.put o.dst v') w') :
  wpList P ops Q (o :: rest) a (w0.alloc (.cells #[x, y] e)) := by
 obtain ⟨i0, hi, hz0, hz1, hz2⟩ := info_parts hinfo;refine wpList_append_own_at _ hgd s yy t ho base e i0 z 2 bytes ht hi hz0 hz1 hz2 hzc (by decide) v n xs hs (hown.alloc _) ⟨w0.heap.size, 0, none⟩ 1 1 [x, y] hy rfl ?_ (fun u hu => by simp at hu; rcases hu with rfl | rfl <;> assumption) (by unfold maxLen; omega) hbytes (by simp; omega) ?_
 ·intro j u hu
  have e1 : (⟨w0.heap.size, 0, none⟩ : Addr).add j = ⟨w0.heap.size, j, none⟩ := by
   unfold Addr.add;split
   ·rename_i h; simp [h]
   ·simp
  rw [e1, World.cell?_alloc_at _ _ _ _ rfl];simpa using hu
 ·intro v' w' hown' hgrow _ hat;exact h v' w' hown' (below_append (Below.refl base w0) hbase hown (Nat.le_refl _) hgrow)
end
end Go.Proofs.YthcabnfcgjnlnaaGreatDoor
namespace Go.Proofs.YthcabnfcgjnlnaaGreatDoor.Lay
open Go.Proofs.YthcabnfcgjnlnaaGreatDoor Go.Proofs.YthcabnfcgjnlnaaGreatDoor.Ru
def Fit (c : List Int) (W : Int) (i : Nat) : Prop := 0 < i /\ (gst c W i).2 <= W /\ max (c.getD i 0) 0 <= W - (gst c W i).2 - 1
theorem gst_no {c : List Int} {W : Int} {i : Nat} (h : ¬ Fit c W i) : gst c W (i + 1) = ((gst c W i).1 ++ [(i, i + 1)], max (c.getD i 0) 0) := by
 exact if_neg h
theorem gst_yes {c : List Int} {W : Int} {i f e : Nat} {done : List (Nat × Nat)} (h : Fit c W i) (hg : (gst c W i).1 = done ++ [(f, e)]) :
  gst c W (i + 1) = (done ++ [(f, i + 1)], (gst c W i).2 + 1 + max (c.getD i 0) 0) := by
 refine (if_pos h).trans ?_;rw [hg];simp
theorem gst_last {c : List Int} {W : Int} : ∀ i, 0 < i -> ∃ done f, (gst c W i).1 = done ++ [(f, i)] /\ f < i
 | 0, h => by omega
 | i + 1, _ => by
  by_cases h : Fit c W i
  ·obtain ⟨done, f, hg, hf⟩ := gst_last i h.1;exact ⟨done, f, by rw [gst_yes h hg], by omega⟩
  ·exact ⟨_, i, by rw [gst_no h], by omega⟩
theorem gst_rng {c : List Int} {W M : Int} (hc : ∀ x ∈ c, x <= M) (hW : W <= M) (hM : 0 <= M) : ∀ i, 0 <= (gst c W i).2 /\ (gst c W i).2 <= M
 | 0 => ⟨Int.le_refl _, hM⟩
 | i + 1 => by
  have ih := gst_rng hc hW hM i;by_cases h : Fit c W i
  ·obtain ⟨done, f, hg, hf⟩ := gst_last (c := c) (W := W) i h.1;rw [gst_yes h hg];have h3 := h.2.2;have h4 : 0 <= max (c.getD i 0) 0 := Int.le_max_right _ _;constructor
   ·show 0 <= (gst c W i).2 + 1 + _; omega
   ·show (gst c W i).2 + 1 + _ <= M; omega
  ·rw [gst_no h];refine ⟨Int.le_max_right _ _, ?_⟩;show max (c.getD i 0) 0 <= M
   cases hi : c[i]? with
   | none => rw [List.getD, hi]; exact Int.max_le.2 ⟨hM, hM⟩
   | some x => rw [List.getD, hi]; exact Int.max_le.2 ⟨hc x (List.mem_of_getElem? hi), hM⟩
theorem gst_len {c : List Int} {W : Int} : ∀ i, (gst c W i).1.length <= i
 | 0 => Nat.le_refl _
 | i + 1 => by
  have ih := gst_len (c := c) (W := W) i;by_cases h : Fit c W i
  ·obtain ⟨done, f, hg, hf⟩ := gst_last (c := c) (W := W) i h.1;rw [gst_yes h hg];rw [hg] at ih;simp at ih |-
   omega
  ·rw [gst_no h];simp
   omega
def seg (c : List Int) (f : Nat) : Nat -> Int
 | 0 => max (c.getD f 0) 0
 | n + 1 => seg c f n + 1 + max (c.getD (f + n + 1) 0) 0
def startOf (l : List (Nat × Nat)) : Nat -> Nat
 | 0 => 0
 | j + 1 => (l.getD j (0, 0)).2
structure GOk (c : List Int) (W : Int) (i : Nat) (l : List (Nat × Nat)) (u : Int) : Prop where
 each : ∀ j f e, l[j]? = some (f, e) -> f < e /\ e <= i /\ f = startOf l j /\ (1 < e - f -> seg c f (e - f - 1) <= W) /\ (j + 1 < l.length -> ¬ (seg c f (e - f - 1) + 1 + max (c.getD e 0) 0 <= W))
 last : startOf l l.length = i
 wide : ∀ f e, l.getLast? = some (f, e) -> u = seg c f (e - f - 1)
 none_ : l = [] -> i = 0
theorem getD_of_some {α : Type} {l : List α} {j : Nat} {x d : α} (h : l[j]? = some x) : l.getD j d = x := by rw [List.getD, h]; rfl
theorem startOf_app {l m : List (Nat × Nat)} {j : Nat} (h : j <= l.length) : startOf (l ++ m) j = startOf l j := by
 cases j with
 | zero => rfl
 | succ j =>
  show ((l ++ m).getD j (0, 0)).2 = (l.getD j (0, 0)).2;rw [List.getD, List.getD, List.getElem?_append_left (by omega)]
theorem gst_ok (c : List Int) (W : Int) : ∀ i, GOk c W i (gst c W i).1 (gst c W i).2
  | 0 => ⟨fun j f e h => by simp [gst] at h, rfl, fun f e h => by simp [gst] at h, fun _ => rfl⟩
  | i + 1 => by
    have ih := gst_ok c W i;by_cases h : Fit c W i
    · obtain ⟨done, f, hg, hf⟩ := gst_last (c := c) (W := W) i h.1
      have hu := ih.wide f i (by rw [hg]; simp);rw [hg] at ih;have hlast := ih.each done.length f i (by simp);rw [gst_yes h hg]
      have hseg : (gst c W i).2 + 1 + max (c.getD i 0) 0 = seg c f (i + 1 - f - 1) := by
        rw [hu, show i + 1 - f - 1 = (i - f - 1) + 1 by omega];show _ = seg c f (i - f - 1) + 1 + max (c.getD (f + (i - f - 1) + 1) 0) 0;rw [show f + (i - f - 1) + 1 = i by omega]
      refine ⟨fun j f' e hj => ?_, ?_, fun f' e hl => ?_, fun h0 => by simp at h0⟩
      · by_cases hjd : j < done.length
        · rw [List.getElem?_append_left hjd] at hj
          obtain ⟨a1, a2, a3, a4, a5⟩ := ih.each j f' e (by rw [List.getElem?_append_left hjd]; exact hj);refine ⟨a1, by omega, ?_, a4, fun _ => a5 (by simp; omega)⟩;rw [startOf_app (by omega)];rw [startOf_app (by omega)] at a3;exact a3
        · rw [List.getElem?_append_right (by omega)] at hj
          have hj0 : j - done.length = 0 := by
            have := (List.getElem?_eq_some_iff.1 hj).1;simp at this
            omega
          rw [hj0] at hj;simp at hj
          obtain ⟨rfl, rfl⟩ := hj;obtain rfl : j = done.length := by omega
          refine ⟨by omega, Nat.le_refl _, ?_, fun _ => ?_, fun hlt => by simp at hlt⟩
          · have := hlast.2.2.1
            rw [startOf_app (Nat.le_refl _)] at this |-;exact this
          · rw [<- hseg]
            have := h.2.2;omega
      · rw [List.length_append]
        show (((done ++ [(f, i + 1)]).getD done.length (0, 0))).2 = _;rw [getD_of_some (x := (f, i + 1)) (by simp)]
      · rw [List.getLast?_append] at hl
        simp at hl
        obtain ⟨rfl, rfl⟩ := hl;exact hseg
    · rw [gst_no h]
      refine ⟨fun j f' e hj => ?_, ?_, fun f' e hl => ?_, fun h0 => by simp at h0⟩
      · by_cases hjd : j < (gst c W i).1.length
        · rw [List.getElem?_append_left hjd] at hj
          obtain ⟨a1, a2, a3, a4, a5⟩ := ih.each j f' e hj;refine ⟨a1, by omega, by rw [startOf_app (by omega)]; exact a3, a4, fun hlt => ?_⟩;by_cases hj1 : j + 1 < (gst c W i).1.length
          · exact a5 hj1
          · have hlst : (gst c W i).1.getLast? = some (f', e) := by
              rw [List.getLast?_eq_getElem?, show (gst c W i).1.length - 1 = j by omega];exact hj
            have hi0 : 0 < i := by omega
            obtain ⟨done, f, hg, hf⟩ := gst_last (c := c) (W := W) i hi0
            have he : e = i := by
              rw [hg] at hlst;simp at hlst
              omega
            subst he;rw [<- ih.wide f' e hlst];intro hle;refine h ⟨hi0, ?_, ?_⟩
            · have : 0 <= max (c.getD e 0) 0 := Int.le_max_right _ _
              omega
            · omega
        · rw [List.getElem?_append_right (by omega)] at hj
          have hj0 : j - (gst c W i).1.length = 0 := by
            have := (List.getElem?_eq_some_iff.1 hj).1;simp at this
            omega
          rw [hj0] at hj;simp at hj
          obtain ⟨rfl, rfl⟩ := hj;obtain rfl : j = (gst c W i).1.length := by omega
          refine ⟨by omega, Nat.le_refl _, ?_, fun hgt => by omega, fun hlt => by simp at hlt⟩;rw [startOf_app (Nat.le_refl _)];exact ih.last.symm
      · rw [List.length_append]
        show ((((gst c W i).1 ++ [(i, i + 1)]).getD (gst c W i).1.length (0, 0))).2 = _;rw [getD_of_some (x := (i, i + 1)) (by simp)]
      · rw [List.getLast?_append] at hl
        simp at hl
        obtain ⟨rfl, rfl⟩ := hl;rw [show i + 1 - i - 1 = 0 by omega];rfl
theorem groups_ok (c : List Int) (W : Int) : GOk c W c.length (groups c W) (gst c W c.length).2 := gst_ok c W c.length
theorem groups_pos {c : List Int} {W : Int} (hc : 0 < c.length) : 0 < (groups c W).length := by
 have := (groups_ok c W).none_
 cases h : groups c W with
 | nil => have := this h; omega
 | cons x t => simp
theorem groups_len (c : List Int) (W : Int) : (groups c W).length <= c.length := gst_len _
theorem alignL_len (L : List (List ByteArray)) : (alignL L).length = L.length := by unfold alignL; simp
theorem wrapG_len {f : Nat × Nat -> List ByteArray} {G : List (Nat × Nat)} {m : Nat} (hf : ∀ g, (f g).length = m) : ∀ i, (wrapG f G (i + 1)).length = (i + 1) * m + i
 | 0 => by simp [wrapG, hf]
 | i + 1 => by
  show (wrapG f G (i + 1) ++ (if 0 < i + 1 then [(⟨#[]⟩ : ByteArray)] else []) ++ f _).length = _;rw [List.length_append, List.length_append, wrapG_len hf i, hf, if_pos (by omega)];simp [Nat.add_mul]
  omega
theorem wrapL_len {L : List (List ByteArray)} {W : Int} (h : 0 < nmax L) : (wrapL L W).length = (groups (cols L) W).length * L.length + (groups (cols L) W).length - 1 := by
 have hp := groups_pos (c := cols L) (W := W) (by rw [cols_len]; exact h);unfold wrapL;obtain ⟨n, hn⟩ : ∃ n, (groups (cols L) W).length = n + 1 := ⟨(groups (cols L) W).length - 1, by omega⟩;rw [hn, wrapG_len (m := L.length) (fun g => by rw [alignL_len]; unfold partP; simp)];omega
theorem wrapL_none {L : List (List ByteArray)} {W : Int} (h : nmax L = 0) : wrapL L W = [] := by
 have h1 : (cols L).length = 0 := by rw [cols_len]; exact h
 have h2 : (groups (cols L) W).length = 0 := by have := groups_len (cols L) W; omega
 unfold wrapL;rw [h2];rfl
end Go.Proofs.YthcabnfcgjnlnaaGreatDoor.Lay
namespace Go.Proofs.YthcabnfcgjnlnaaGreatDoor
section
open Go.RowKit Ru Lay
theorem getD_at {α : Type} {l : List α} {k : Nat} {x d : α} (h : l[k]? = some x) : l.getD k d = x := by rw [List.getD, h]; rfl
set_option maxHeartbeats 4000000 in
set_option maxRecDepth 100000 in
theorem groups_any (A : Option Addr) (n c : Nat) (l : List Int) (W : Int) (w : World) (h : IR w w.heap.size A n l) (hn : n <= 100000) (hl : ∀ x ∈ l, x <= 9223372036854775807) (hW : W <= 9223372036854775807) :
  Calls Tryz.prog 70 #[.slice A n c, .int .i64 W] w fun e w' => ∃ v, e = .returned v /\ OwnG w' w.heap.size v (groups l W) /\ Below w.heap.size w w' := by
 have HL := hI h;have HLN := hI h.len;have HRG := hI (gst_rng (c := l) (W := W) (M := 9223372036854775807) hl hW (by omega));clear h hl;go_enter Tryz.func70, Tryz.ntmps70
 go_wp2_with fail
 go_loopw [5, 6] (fun v5 v6 wr => ∃ f : Nat, f <= n /\ v6 = .int .i64 f /\ Hid (OwnG wr w.heap.size v5 (gst l W f).1) /\ Hid (f < n -> ¬ Fit l W f) /\ Hid (Below w.heap.size w wr)) (fun _ v6 _ => n - (intOf v6).toNat)
 case atStart => exact ⟨0, Nat.zero_le _, rfl, OwnG.nil _ _, fun _ hf => Nat.lt_irrefl _ hf.1, Below.refl _ _⟩
 case round =>
  obtain ⟨f, hf, rfl, HO, HNF, HB⟩ := hrel;obtain ⟨w0, hw0⟩ : ∃ w0, w0 = wr := ⟨_, rfl⟩;rw [<- hw0] at HO HB |-;clear hw0;by_cases hlt : f < n
  ·have hfz : (f : Int) < (n : Int) := by omega
   have hfA : (0 : Int) <= (f : Int) := by omega
   obtain ⟨ad, x, rfl, hadb, hx, hcx⟩ := HL.out.at_ hlt;have HC : Hid (∀ W', Below w.heap.size w W' -> W'.cell? (ad.add f) = some (.int .i64 x)) := fun W' hb => (hb.cell (by rw [block_of_add]; exact hadb)).trans hcx
   have hcx0 := HC.out _ HB.out
   have HG1 : Hid (gst l W (f + 1) = ((gst l W f).1 ++ [(f, f + 1)], max x 0)) := by
    show _ = _;rw [gst_no (HNF.out hlt), getD_at hx]
   have hgl := gst_len (c := l) (W := W) f;obtain ⟨G, hG⟩ : ∃ G, (gst l W f).1 = G := ⟨_, rfl⟩;rw [hG] at HO HG1 hgl;clear hx hcx hG;have hcq : ∀ p : BW w0, p.at_.cell? (ad.add f) = some (.int .i64 x) := fun p => HC.out _ (HB.out.trans (p.bel.mono HB.out.size))
   go_wp2_with fail
   refine wp_region_quiet_below (by kernel_rfl) (by kernel_rfl) ?_;repeat (go_big_quiet_step (fail))
   refine wpQuiet_nil ?_;intro w1 hw';have hb1 := bw_below hw';have HB2 : Hid (Below w.heap.size w w1) := HB.out.trans (hb1.mono HB.out.size);have HO2 : Hid (w1.ownsRow w.heap.size 108 2 _ G.length (pairV G)) := own_below HO.out hb1;have hszw := HB2.out.size;clear hcq hw' hb1 hcx0 HO HB;go_wp2_with fail
   go_loop [7, 8] (fun v7 v8 => ∃ t : Nat, f < t /\ t <= n /\ v7 = .int .i64 t /\ v8 = .int .i64 (gst l W t).2 /\ Hid ((gst l W t).1 = G ++ [(f, t)])) (fun v7 _ => n - (intOf v7).toNat)
   case atStart => exact ⟨f + 1, by omega, by omega, by go_num, by rw [HG1.out], by show _ = _; rw [HG1.out]⟩
   case round =>
    obtain ⟨t, ht1, ht2, rfl, rfl, HG⟩ := hrel;obtain ⟨hu0, hu1⟩ := HRG.out t;obtain ⟨u, hu⟩ : ∃ u, (gst l W t).2 = u := ⟨_, rfl⟩;have HU := hI hu;rw [hu] at hu0 hu1 |-;clear hu;by_cases htn : t < n
    ·have htz : (t : Int) < (n : Int) := by omega
     have htA : (0 : Int) <= (t : Int) := by omega
     obtain ⟨ad', y, e', hyb, hy, hcy⟩ := HL.out.at_ htn
     cases e'
     have hcy1 : w1.cell? (ad.add t) = some (.int .i64 y) := (HB2.out.cell (by rw [block_of_add]; exact hyb)).trans hcy;have HY : Hid (l.getD t 0 = y) := getD_at hy;clear hy hcy;by_cases hf1 : u <= W
     ·have hd1 : decide (u <= W) = true := decide_eq_true hf1;by_cases hf2 : max y 0 <= W - u - 1
      ·have hd2 : decide (max y 0 <= W - u - 1) = true := decide_eq_true hf2;have hmx : 0 <= max y 0 := Int.le_max_right _ _;have HFIT : Hid (Fit l W t) := ⟨by omega, by rw [HU.out]; exact hf1, by rw [HY.out, HU.out]; exact hf2⟩;have HGN : Hid (gst l W (t + 1) = (G ++ [(f, t + 1)], u + 1 + max y 0)) := by show _ = _; rw [gst_yes HFIT.out HG.out, HU.out, HY.out]
       go_wp2;go_round
       case rel => exact ⟨t + 1, by omega, by omega, by go_num, by rw [HGN.out]; exact congrArg (Value.int .i64) (by omega), by show _ = _; rw [HGN.out]⟩
       case measure => simp [intOf]; omega
      ·have hd2 : decide (max y 0 <= W - u - 1) = false := decide_eq_false hf2;have HFT : Hid (t < n -> ¬ Fit l W t) := fun _ hf => hf2 (by have h3 := hf.2.2; rw [HY.out, HU.out] at h3; exact h3)
       go_wp2_with (at_builtin; refine wpList_app2 rfl (.tmp 51) (.tmp 55) 105 rfl w.heap.size 108 16 _ info_pair rfl Tryz.underlying105 rfl HO2.out rfl rfl rfl (by omega) (by omega) hszw ?_; intro v7 w2 hown7 hb7)
       have HO3 : Hid (OwnG w2 w.heap.size v7 (gst l W t).1) := by
        show World.ownsRow _ _ _ _ _ _ _;rw [HG.out, List.length_append, List.length_singleton, pairV_app];exact hown7
       have HB3 : Hid (Below w.heap.size w w2) := HB2.out.trans hb7;clear hown7 hb7;go_wp2;go_roundw
       case rel => exact ⟨t, by omega, rfl, HO3, HFT, HB3⟩
       case measure => simp [intOf]; omega
     ·have hd1 : decide (u <= W) = false := decide_eq_false hf1;have HFT : Hid (t < n -> ¬ Fit l W t) := fun _ hf => hf1 (by have h3 := hf.2.1; rw [HU.out] at h3; exact h3)
      go_wp2_with (at_builtin; refine wpList_app2 rfl (.tmp 51) (.tmp 55) 105 rfl w.heap.size 108 16 _ info_pair rfl Tryz.underlying105 rfl HO2.out rfl rfl rfl (by omega) (by omega) hszw ?_; intro v7 w2 hown7 hb7)
      have HO3 : Hid (OwnG w2 w.heap.size v7 (gst l W t).1) := by
       show World.ownsRow _ _ _ _ _ _ _;rw [HG.out, List.length_append, List.length_singleton, pairV_app];exact hown7
      have HB3 : Hid (Below w.heap.size w w2) := HB2.out.trans hb7;clear hown7 hb7;go_wp2;go_roundw
      case rel => exact ⟨t, by omega, rfl, HO3, HFT, HB3⟩
      case measure => simp [intOf]; omega
    ·have htz : ¬ (t : Int) < (n : Int) := by omega
     have HFT : Hid (t < n -> ¬ Fit l W t) := fun h => absurd h htn
     go_wp2_with (at_builtin; refine wpList_app2 rfl (.tmp 51) (.tmp 55) 105 rfl w.heap.size 108 16 _ info_pair rfl Tryz.underlying105 rfl HO2.out rfl rfl rfl (by omega) (by omega) hszw ?_; intro v7 w2 hown7 hb7)
     have HO3 : Hid (OwnG w2 w.heap.size v7 (gst l W t).1) := by
      show World.ownsRow _ _ _ _ _ _ _;rw [HG.out, List.length_append, List.length_singleton, pairV_app];exact hown7
     have HB3 : Hid (Below w.heap.size w w2) := HB2.out.trans hb7;clear hown7 hb7;go_wp2;go_roundw
     case rel => exact ⟨t, by omega, rfl, HO3, HFT, HB3⟩
     case measure => simp [intOf]; omega
  ·obtain rfl : n = f := by omega
   have hfz : ¬ (n : Int) < (n : Int) := by omega
   have h0 := HO.out;have h1 : (gst l W n).1 = groups l W := by unfold groups; rw [HLN.out]
   rw [h1] at h0;have HO5 := hI h0;clear h0 h1;go_wp2;go_ret;exact ⟨_, rfl, HO5.out, HB.out⟩
end
end Go.Proofs.YthcabnfcgjnlnaaGreatDoor
