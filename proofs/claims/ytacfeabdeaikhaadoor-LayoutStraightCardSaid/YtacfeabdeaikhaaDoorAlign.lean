/-
  Align, and that of the reference.
-/
import Derived.Test.YtacfeabdeaikhaaDoorGCols
import Derived.Test.YtacfeabdeaikhaaDoorGPlain
namespace Go.Proofs.YtacfeabdeaikhaaDoor
open Go.RowKit Ru Lay
attribute [local go_sem ↓] Go.wp_at_zero Go.wp_at_succ
set_option linter.unusedVariables false
set_option linter.unusedSimpArgs false

/-- A strings.Builder of the call's own holds the bytes l. -/
def Bld (w : World) (B b : Nat) (l : List UInt8) : Prop := Lib.IsBuilder 49 5 B b (Lib.byteCells l) w
theorem Bld.new (w : World) : Bld (w.alloc (.cells #[.pointer none, .slice none 0 0] 49)) w.heap.size w.heap.size [] := Lib.fresh_isBuilder _ _ w
theorem builderAt_on {T e : TypeId} {B b : Nat} {p : Value} {bs : List Value} {w w' : World} (h : Lib.BuilderAt T e B b p bs w) (hb : Below w.heap.size w w') : Lib.BuilderAt T e B b p bs w' := by
  have hlt := h.lt
  obtain ⟨hB, v, hk, hown, hne⟩ := h
  exact ⟨hB, v, (hb.block b hlt).trans hk, own_below hown hb, hne⟩
theorem Bld.on {w w' : World} {B b : Nat} {l : List UInt8} (h : Bld w B b l) (hb : Below w.heap.size w w') : Bld w' B b l := h.elim (fun x => .inl (builderAt_on x hb)) (fun x => .inr (builderAt_on x hb))
theorem writeByte_any (B b : Nat) (l : List UInt8) (w : World) (h : Bld w B b l) (hl : l.length + 1 ≤ 140737488355328) (hB : B ≤ w.heap.size) :
    Calls Tryd.prog 36 #[.pointer (some ⟨b, 0, none⟩), .int .u8 32] w fun e w' => e = .returned .nilIface ∧ Bld w' B b (l ++ [32]) ∧ Below B w w' := by
  refine (Tryd.Builder_WriteByte B b (Lib.byteCells l) 32 w h (by rw [Lib.byteCells_length]; exact hl) hB).mono ?_
  rintro e w' ⟨rfl, h1, h2⟩
  refine ⟨rfl, ?_, h2⟩
  unfold Bld
  rw [Lib.byteCells_append]
  exact .inr h1
theorem writeStr_any (B b : Nat) (l : List UInt8) (s : ByteArray) (w : World) (h : Bld w B b l) (hl : l.length + s.size ≤ 140737488355328) (hB : B ≤ w.heap.size) :
    Calls Tryd.prog 37 #[.pointer (some ⟨b, 0, none⟩), .string s] w fun e w' => e = .returned (.tuple #[.int .i64 s.size, .nilIface]) ∧ Bld w' B b (l ++ s.data.toList) ∧ Below B w w' := by
  refine (Tryd.Builder_WriteString B b (Lib.byteCells l) s w h (by rw [Lib.byteCells_length]; exact hl) hB).mono ?_
  rintro e w' ⟨rfl, h1, h2⟩
  refine ⟨rfl, ?_, h2⟩
  unfold Bld
  rw [Lib.byteCells_append]
  exact .inr h1
theorem bldStr_any (B b : Nat) (l : List UInt8) (w : World) (h : Bld w B b l) (hB : B ≤ w.heap.size) :
    Calls Tryd.prog 39 #[.pointer (some ⟨b, 0, none⟩)] w fun e w' => e = .returned (.string (strL l)) ∧ Below B w w' := Tryd.Builder_String_any B b l w h hB
theorem trim_any (s : ByteArray) (w : World) (hs : s.size ≤ 9223372036854775807) :
    Calls Tryd.prog 38 #[.string s, .string ⟨#[32]⟩] w fun e w' => e = .returned (.string (strL (trimR s.data.toList))) ∧ w' = w := Tryd.strings_TrimRight_one s 32 (by decide) w hs
/-- A row of strings of the call's own. -/
def OwnS (w : World) (base : Nat) (v : Value) (l : List ByteArray) : Prop := w.ownsRow base 9 1 v l.length (l.map .string)
theorem OwnS.nil (w : World) (base : Nat) : OwnS w base (.slice none 0 0) [] := World.ownsRow_nil _ _ _ _
theorem OwnS.on {w w' : World} {base : Nat} {v : Value} {l : List ByteArray} (h : OwnS w base v l) (hb : Below w.heap.size w w') : OwnS w' base v l := own_below h hb
theorem OwnS.form {w : World} {base : Nat} {v : Value} {l : List ByteArray} (h : OwnS w base v l) : ∃ A c, v = .slice A l.length c ∧ l.length ≤ c ∧ c ≤ 9223372036854775807 ∧ SR w w.heap.size A l.length l := own_form h
theorem lineG_len (c : List Int) (r : List ByteArray) (hr : SzR r) : ∀ k, (lineG c r k).length ≤ k * 104001
  | 0 => Nat.zero_le _
  | k + 1 => by
    have ih := lineG_len c r hr k
    have h1 := pad_len (cellB r k).data.toList (c.getD k 0)
    have h2 := hr.cellB k
    rw [Lib.size_eq] at h2
    show (lineG c r k ++ (if 0 < k then [32] else []) ++ pad (cellB r k).data.toList (c.getD k 0)).length ≤ _
    rw [List.length_append, List.length_append]
    have h3 : (if 0 < k then [32] else [] : List UInt8).length ≤ 1 := by split <;> simp
    omega
theorem own_s {w : World} {base n : Nat} {v : Value} {l : List ByteArray} {s : ByteArray} (h : w.ownsRow base 9 1 v (l.length + 1) (l.map .string ++ [.string s])) : OwnS w base v (l ++ [s]) := by
  show World.ownsRow _ _ _ _ _ _ _
  rw [List.length_append, List.length_singleton, List.map_append]
  exact h

set_option maxHeartbeats 4000000 in
set_option maxRecDepth 100000 in
theorem align_any (A : Option Addr) (n c : Nat) (L : List (List ByteArray)) (w : World) (hL : RowsR w w.heap.size A n L) (hz : SzL L) (hT : Tabs w) :
    Calls Tryd.prog 25 #[.slice A n c] w fun e w' => ∃ v, e = .returned v ∧ OwnS w' w.heap.size v (alignL L) ∧ Below w.heap.size w w' := by
  have HT := Lib.hid hT
  have HL := Lib.hid hL
  have HZ := Lib.hid hz
  have HLN := Lib.hid hL.len
  have hn : n ≤ 100000 := by have := hL.len; have := hz.1; omega
  have HCO := Lib.hid (columns_any A n c L w hL hz hT)
  have hnm := hz.nmax
  clear hT hL hz
  go_enter Tryd.func25, Tryd.ntmps25
  go_wp2_with fail
  refine HCO.out.mono ?_
  rintro e wc ⟨v, rfl, hown, hb⟩
  obtain ⟨CA, cc, rfl, _, _, hir⟩ := hown.form
  rw [cols_len] at hir ⊢
  have HCR := Lib.hid hir
  have HBC := Lib.hid hb
  obtain ⟨N, hN⟩ : ∃ N, nmax L = N := ⟨_, rfl⟩
  have HN := Lib.hid hN
  rw [hN] at hnm HCR ⊢
  clear hir hb hown hN HCO
  go_wp2_with fail
  go_loopw [4, 15] (fun v4 v15 wr => ∃ i : Nat, i ≤ n ∧ v15 = .int .i64 i ∧ Hid (OwnS wr wc.heap.size v4 ((L.take i).map fun r => lineL (cols L) r)) ∧ Hid (Below wc.heap.size wc wr)) (fun _ v15 _ => n - (intOf v15).toNat)
  case atStart => exact ⟨0, Nat.zero_le _, rfl, (by rw [List.take_zero]; exact OwnS.nil _ _), Below.refl _ _⟩
  case round =>
    obtain ⟨i, hi, rfl, HO, HBR⟩ := hrel
    obtain ⟨w0, hw0⟩ : ∃ w0, wr = w0 := ⟨_, rfl⟩
    rw [hw0] at HO HBR ⊢
    clear hw0
    have HB : Hid (Below w.heap.size w w0) := HBC.out.trans (HBR.out.mono HBC.out.size)
    by_cases hlt : i < n
    · have hiz : (i : Int) < (n : Int) := by omega
      obtain ⟨ad, r, RA, rn, rc, rfl, hadb, hr, hcr, hsr, _, _⟩ := HL.out.at_ hlt
      have hcr0 : w0.cell? (ad.add i) = some (.slice RA rn rc) := (HB.out.cell (by rw [block_of_add]; exact hadb)).trans hcr
      have HR := Lib.hid hr
      have HSR := Lib.hid hsr
      have HRN : Hid (r.length = rn) := hsr.len
      have hrn : rn ≤ 100000 := by have := HRN.out; have := (HZ.out.row hr).1; omega
      have HSZ := Lib.hid (HZ.out.row hr)
      have HNX : Hid ((L.take (i + 1)).map (fun r => lineL (cols L) r) = ((L.take i).map fun r => lineL (cols L) r) ++ [lineL (cols L) r]) := by show _ = _; rw [take_at2 hr, List.map_append]; rfl
      have hll : ((L.take i).map fun r => lineL (cols L) r).length ≤ i := by rw [List.length_map, List.length_take]; omega
      obtain ⟨ll, hlq⟩ : ∃ ll, ((L.take i).map fun r => lineL (cols L) r) = ll := ⟨_, rfl⟩
      rw [hlq] at HO HNX hll
      have HI := Lib.hid hlt
      clear hcr hsr hr hlq
      go_wp2_with fail
      clear hcr0
      have HD0 := Lib.hid (Bld.new w0)
      have HBB0 : Hid (Below w0.heap.size w0 (w0.alloc (.cells #[.pointer none, .slice none 0 0] 49))) := below_new _ _
      obtain ⟨w1, hw1⟩ : ∃ w1, w0.alloc (.cells #[.pointer none, .slice none 0 0] 49) = w1 := ⟨_, rfl⟩
      rw [hw1] at HD0 HBB0 ⊢
      clear hw1
      go_loopw [21] (fun v21 wi => ∃ k : Nat, k ≤ N ∧ v21 = .int .i64 k ∧ Hid (Bld wi w0.heap.size w0.heap.size (lineG (cols L) r k)) ∧ Hid (Below w0.heap.size w0 wi)) (fun v21 _ => N - (intOf v21).toNat)
      case atStart => exact ⟨0, Nat.zero_le _, rfl, HD0, HBB0⟩
      case round =>
        clear HD0 HBB0
        obtain ⟨k, hk, rfl, HD, HBB⟩ := hrel
        obtain ⟨wi, hwi⟩ : ∃ wi, wi = wr := ⟨_, rfl⟩
        rw [← hwi] at HD HBB ⊢
        clear hwi
        by_cases hkl : k < N
        · have hkz : (k : Int) < (N : Int) := by omega
          obtain ⟨cd, x, rfl, hcb, hx, hcx⟩ := HCR.out.at_ hkl
          obtain rfl : x = (colAt L k : Int) := by
            rw [cols_at (by rw [HN.out]; exact hkl)] at hx
            exact (Option.some.inj hx).symm
          have hcx1 : wi.cell? (cd.add k) = some (.int .i64 (colAt L k : Int)) := (HBB.out.cell (by rw [block_of_add]; exact Nat.lt_of_lt_of_le hcb HBR.out.size)).trans ((HBR.out.cell (by rw [block_of_add]; exact hcb)).trans hcx)
          have hlk := lineG_len (cols L) r HSZ.out k
          clear hx hcx
          by_cases hkr : k < rn
          · have hkz2 : (k : Int) < (rn : Int) := by omega
            obtain ⟨rd, s, rfl, hrb, hs, hcs⟩ := HSR.out.at_ hkr
            have hcs1 : wi.cell? (rd.add k) = some (.string s) := (HBB.out.cell (by rw [block_of_add]; exact Nat.lt_of_lt_of_le hrb HB.out.size)).trans ((HB.out.cell (by rw [block_of_add]; exact hrb)).trans hcs)
            have HS : Hid (cellB r k = s) := cellB_some hs
            have hss := HSZ.out.cell hs
            clear hs hcs
            have HPD := Lib.hid fun W (hb : Below w.heap.size w W) => pad_any s (colAt L k : Int) W (by omega) (HT.out.on hb)
            by_cases hk0' : 0 < k
            · clear hkz2
              have HD0 := HD
              have hk0 : (0 : Int) < (k : Int) := by omega
              have hk1 : 0 < k := by omega
              have HNL : Hid (lineG (cols L) r (k + 1) = lineG (cols L) r k ++ [32] ++ (padB s (colAt L k : Int)).data.toList) := by
                show lineG (cols L) r k ++ (if 0 < k then [32] else []) ++ pad (cellB r k).data.toList ((cols L).getD k 0) = _
                rw [if_pos hk1, HS.out, cols_getD]
                unfold padB
                rw [strL_data]
              have hln1 : (lineG (cols L) r k ++ [32]).length ≤ 10400100001 := by rw [List.length_append, List.length_singleton]; omega
              have hszb := HBB.out.size
              go_wp2_with fail
              refine (writeByte_any _ _ _ _ HD0.out (by omega) hszb).mono ?_
              rintro e w2 ⟨rfl, hd2, hb2⟩
              have HD2 := Lib.hid hd2
              have HBB2 : Hid (Below w0.heap.size w0 w2) := HBB.out.trans hb2
              have HBZ2 : Hid (Below w.heap.size w w2) := HB.out.trans (HBB2.out.mono HB.out.size)
              obtain ⟨ln, hln⟩ : ∃ ln, lineG (cols L) r k ++ [32] = ln := ⟨_, rfl⟩
              rw [hln] at HD2 HNL hln1
              clear hd2 hb2 hln
              go_wp2_with fail

              refine (HPD.out _ HBZ2.out).mono ?_
              rintro e w3 ⟨rfl, hb3⟩
              have HD3 := Lib.hid (HD2.out.on hb3)
              have HBB3 : Hid (Below w0.heap.size w0 w3) := HBB2.out.trans (hb3.mono HBB2.out.size)
              have hps := padB_size s (colAt L k : Int)
              have hsz3 := HBB3.out.size
              clear hb3
              go_wp2_with fail
              refine (writeStr_any _ _ _ _ _ HD3.out (by omega) hsz3).mono ?_
              rintro e w4 ⟨rfl, hd4, hb4⟩
              have HD4 : Hid (Bld w4 w0.heap.size w0.heap.size (lineG (cols L) r (k + 1))) := by
                show Bld _ _ _ _
                rw [HNL.out]
                exact hd4
              have HBB4 : Hid (Below w0.heap.size w0 w4) := HBB3.out.trans hb4
              clear hd4 hb4
              go_wp2
              go_roundw
              case rel => exact ⟨k + 1, by omega, by go_num, HD4, HBB4⟩
              case measure => simp [intOf]; omega

            · skip
              have hk0 : ¬ (0 : Int) < (k : Int) := by omega
              have HK0 : Hid (k = 0) := by show _ = _; omega
              have HNL : Hid (lineG (cols L) r (k + 1) = lineG (cols L) r k ++ (padB s (colAt L k : Int)).data.toList) := by
                show lineG (cols L) r k ++ (if 0 < k then [32] else []) ++ pad (cellB r k).data.toList ((cols L).getD k 0) = _
                rw [if_neg (by omega), HS.out, cols_getD, List.append_nil]
                unfold padB
                rw [strL_data]
              have HD2 := HD
              have HBB2 := HBB
              have HBZ2 : Hid (Below w.heap.size w wi) := HB.out.trans (HBB2.out.mono HB.out.size)
              obtain ⟨ln, hln⟩ : ∃ ln, lineG (cols L) r k = ln := ⟨_, rfl⟩
              have hln1 : (lineG (cols L) r k).length ≤ 10400100001 := by omega
              rw [hln] at HD2 HNL hln1
              clear hln hlk HD hkz2
              go_wp2_with fail

              refine (HPD.out _ HBZ2.out).mono ?_
              rintro e w3 ⟨rfl, hb3⟩
              have HD3 := Lib.hid (HD2.out.on hb3)
              have HBB3 : Hid (Below w0.heap.size w0 w3) := HBB2.out.trans (hb3.mono HBB2.out.size)
              have hps := padB_size s (colAt L k : Int)
              have hsz3 := HBB3.out.size
              clear hb3
              go_wp2_with fail
              refine (writeStr_any _ _ _ _ _ HD3.out (by omega) hsz3).mono ?_
              rintro e w4 ⟨rfl, hd4, hb4⟩
              have HD4 : Hid (Bld w4 w0.heap.size w0.heap.size (lineG (cols L) r (k + 1))) := by
                show Bld _ _ _ _
                rw [HNL.out]
                exact hd4
              have HBB4 : Hid (Below w0.heap.size w0 w4) := HBB3.out.trans hb4
              clear hd4 hb4
              go_wp2
              go_roundw
              case rel => exact ⟨k + 1, by omega, by go_num, HD4, HBB4⟩
              case measure => simp [intOf]; omega
          · have hkz2 : ¬ (k : Int) < (rn : Int) := by omega
            obtain ⟨s, hs⟩ : ∃ s : ByteArray, s = ⟨#[]⟩ := ⟨_, rfl⟩
            have HS : Hid (cellB r k = s) := by show _ = _; rw [hs]; exact cellB_none (by rw [HRN.out]; omega)
            have hss : s.size ≤ 100000 := by rw [hs]; exact Nat.zero_le _
            have HSE := Lib.hid hs
            rw [← hs]
            clear hs
            have HPD := Lib.hid fun W (hb : Below w.heap.size w W) => pad_any s (colAt L k : Int) W (by omega) (HT.out.on hb)
            by_cases hk0' : 0 < k
            · clear hkz2
              have HD0 := HD
              have hk0 : (0 : Int) < (k : Int) := by omega
              have hk1 : 0 < k := by omega
              have HNL : Hid (lineG (cols L) r (k + 1) = lineG (cols L) r k ++ [32] ++ (padB s (colAt L k : Int)).data.toList) := by
                show lineG (cols L) r k ++ (if 0 < k then [32] else []) ++ pad (cellB r k).data.toList ((cols L).getD k 0) = _
                rw [if_pos hk1, HS.out, cols_getD]
                unfold padB
                rw [strL_data]
              have hln1 : (lineG (cols L) r k ++ [32]).length ≤ 10400100001 := by rw [List.length_append, List.length_singleton]; omega
              have hszb := HBB.out.size
              go_wp2_with fail
              refine (writeByte_any _ _ _ _ HD0.out (by omega) hszb).mono ?_
              rintro e w2 ⟨rfl, hd2, hb2⟩
              have HD2 := Lib.hid hd2
              have HBB2 : Hid (Below w0.heap.size w0 w2) := HBB.out.trans hb2
              have HBZ2 : Hid (Below w.heap.size w w2) := HB.out.trans (HBB2.out.mono HB.out.size)
              obtain ⟨ln, hln⟩ : ∃ ln, lineG (cols L) r k ++ [32] = ln := ⟨_, rfl⟩
              rw [hln] at HD2 HNL hln1
              clear hd2 hb2 hln
              go_wp2_with fail

              refine (HPD.out _ HBZ2.out).mono ?_
              rintro e w3 ⟨rfl, hb3⟩
              have HD3 := Lib.hid (HD2.out.on hb3)
              have HBB3 : Hid (Below w0.heap.size w0 w3) := HBB2.out.trans (hb3.mono HBB2.out.size)
              have hps := padB_size s (colAt L k : Int)
              have hsz3 := HBB3.out.size
              clear hb3
              go_wp2_with fail
              refine (writeStr_any _ _ _ _ _ HD3.out (by omega) hsz3).mono ?_
              rintro e w4 ⟨rfl, hd4, hb4⟩
              have HD4 : Hid (Bld w4 w0.heap.size w0.heap.size (lineG (cols L) r (k + 1))) := by
                show Bld _ _ _ _
                rw [HNL.out]
                exact hd4
              have HBB4 : Hid (Below w0.heap.size w0 w4) := HBB3.out.trans hb4
              clear hd4 hb4
              go_wp2
              go_roundw
              case rel => exact ⟨k + 1, by omega, by go_num, HD4, HBB4⟩
              case measure => simp [intOf]; omega

            · skip
              have hk0 : ¬ (0 : Int) < (k : Int) := by omega
              have HK0 : Hid (k = 0) := by show _ = _; omega
              have HNL : Hid (lineG (cols L) r (k + 1) = lineG (cols L) r k ++ (padB s (colAt L k : Int)).data.toList) := by
                show lineG (cols L) r k ++ (if 0 < k then [32] else []) ++ pad (cellB r k).data.toList ((cols L).getD k 0) = _
                rw [if_neg (by omega), HS.out, cols_getD, List.append_nil]
                unfold padB
                rw [strL_data]
              have HD2 := HD
              have HBB2 := HBB
              have HBZ2 : Hid (Below w.heap.size w wi) := HB.out.trans (HBB2.out.mono HB.out.size)
              obtain ⟨ln, hln⟩ : ∃ ln, lineG (cols L) r k = ln := ⟨_, rfl⟩
              have hln1 : (lineG (cols L) r k).length ≤ 10400100001 := by omega
              rw [hln] at HD2 HNL hln1
              clear hln hlk HD hkz2
              go_wp2_with fail

              refine (HPD.out _ HBZ2.out).mono ?_
              rintro e w3 ⟨rfl, hb3⟩
              have HD3 := Lib.hid (HD2.out.on hb3)
              have HBB3 : Hid (Below w0.heap.size w0 w3) := HBB2.out.trans (hb3.mono HBB2.out.size)
              have hps := padB_size s (colAt L k : Int)
              have hsz3 := HBB3.out.size
              clear hb3
              go_wp2_with fail
              refine (writeStr_any _ _ _ _ _ HD3.out (by omega) hsz3).mono ?_
              rintro e w4 ⟨rfl, hd4, hb4⟩
              have HD4 : Hid (Bld w4 w0.heap.size w0.heap.size (lineG (cols L) r (k + 1))) := by
                show Bld _ _ _ _
                rw [HNL.out]
                exact hd4
              have HBB4 : Hid (Below w0.heap.size w0 w4) := HBB3.out.trans hb4
              clear hd4 hb4
              go_wp2
              go_roundw
              case rel => exact ⟨k + 1, by omega, by go_num, HD4, HBB4⟩
              case measure => simp [intOf]; omega
        · obtain rfl : N = k := by omega
          have hkz : ¬ (N : Int) < (N : Int) := by omega
          have hlk := lineG_len (cols L) r HSZ.out N
          have hszb := HBB.out.size
          have HLL : Hid (strL (trimR (strL (lineG (cols L) r N)).data.toList) = lineL (cols L) r) := by
            show _ = _
            unfold lineL
            rw [strL_data, cols_len, HN.out]
          have HTR := Lib.hid fun W => trim_any (strL (lineG (cols L) r N)) W (by rw [strL_size]; omega)
          rw [HLL.out] at HTR
          obtain ⟨ln, hln⟩ : ∃ ln, lineG (cols L) r N = ln := ⟨_, rfl⟩
          rw [hln] at HD HTR
          clear hln hlk HLL
          go_wp2_with fail
          refine (bldStr_any _ _ _ _ HD.out hszb).mono ?_
          rintro e w2 ⟨rfl, hb2⟩
          have HBB2 : Hid (Below w0.heap.size w0 w2) := HBB.out.trans hb2
          clear hb2
          go_wp2_with fail
          refine (HTR.out _).mono ?_
          rintro e w3 ⟨rfl, rfl⟩
          have HO2 := Lib.hid (HO.out.on HBB2.out)
          have hsz2 : wc.heap.size ≤ w3.heap.size := Nat.le_trans HBR.out.size HBB2.out.size
          go_wp2_with (at_builtin; refine wpList_app1 rfl (.tmp 42) (.tmp 45) 36 rfl wc.heap.size 9 16 (.string .empty) info_string rfl Tryd.underlying36 rfl HO2.out rfl rfl (by omega) (by omega) hsz2 ?_; rintro v7 w4 hown7 hb7 hs7 hk7; clear hk7)
          have hO3 := own_s (n := 0) hown7
          rw [← HNX.out] at hO3
          have HO3 := Lib.hid hO3
          have HB3 : Hid (Below wc.heap.size wc w4) := (HBR.out.trans (HBB2.out.mono HBR.out.size)).trans hb7
          clear hO3 hown7 hb7 hs7
          have hi1 : i + 1 ≤ n := HI.out
          go_wp2
          go_roundw
          case rel => exact ⟨i + 1, hi1, by go_num, HO3, HB3⟩
          case measure => have := HI.out; simp [intOf]; omega
    · obtain rfl : n = i := by omega
      have hiz : ¬ (n : Int) < (n : Int) := by omega
      have h0 := HO.out
      rw [List.take_of_length_le (by rw [HLN.out]; exact Nat.le_refl _)] at h0
      have HO5 := Lib.hid h0
      clear h0
      go_wp2
      go_ret
      exact ⟨_, rfl, own_base HO5.out HBC.out.size, HB.out⟩
theorem trimR_blank (l : List UInt8) : trimR (l ++ [32]) = trimR l := by
  unfold trimR
  rw [List.reverse_append, List.reverse_singleton, List.singleton_append, List.dropWhile_cons_of_pos (p := fun b : UInt8 => b == 32) (by rfl)]
theorem trimR_none (l : List UInt8) {b : UInt8} (h : (b == 32) = false) : trimR (l ++ [b]) = l ++ [b] := by
  unfold trimR
  rw [List.reverse_append, List.reverse_singleton, List.singleton_append, List.dropWhile_cons_of_neg (p := fun b : UInt8 => b == 32) (by rw [h]; simp)]
  simp
theorem ba_snoc {t : ByteArray} {m : Nat} (h : t.size = m + 1) (hm : m < t.size) : t.data.toList = (t.extract 0 m).data.toList ++ [t[m]] := by
  have h1 : t.data.toList.length = m + 1 := by rw [← Lib.size_eq]; exact h
  have h2 : t.data.toList = t.data.toList.take (m + 1) := by rw [List.take_of_length_le (by omega)]
  conv => lhs; rw [h2, List.take_succ_eq_append_getElem (by omega)]
  congr 1
  rw [Lib.extract_data]
  simp
set_option maxHeartbeats 1000000 in
theorem refTrim_any (s : ByteArray) (w : World) (hs : s.size ≤ 9223372036854775807) :
    Calls Tryd.prog 40 #[.string s] w fun e w' => e = .returned (.string (strL (trimR s.data.toList))) ∧ w = w' := by
  go_enter Tryd.func40, Tryd.ntmps40
  go_wp2_with fail
  go_loopg [0] s.size (fun g v0 wr => ∃ t : ByteArray, v0 = .string t ∧ t.size ≤ g ∧ t.size ≤ s.size ∧ Hid (trimR t.data.toList = trimR s.data.toList) ∧ Hid (w = wr))
  case atStart => exact ⟨s, rfl, Nat.le_refl _, Nat.le_refl _, rfl, rfl⟩
  case round =>
    obtain ⟨t, rfl, hg, hts, HT, HW⟩ := hrel
    by_cases h0 : 0 < t.size
    · obtain ⟨m, hm⟩ : ∃ m, t.size = m + 1 := ⟨t.size - 1, by omega⟩
      have hmt : m < t.size := by omega
      have HSN := Lib.hid (ba_snoc hm hmt)
      have hex : (t.extract 0 m).size = m := by rw [Lib.size_eq, Lib.extract_data]; simp; omega
      have hj1 : (t.size : Int) - 1 = (m : Int) := by omega
      have hj2 : IntKind.i64.wrap ((t.size : Int) - 1) = (m : Int) := by rw [hj1]; exact IntWalk.i64_in _ (by omega)
      have hj3 : wrap64 ((t.size : Int) - 1) = (m : Int) := by unfold wrap64; omega
      have hj4 : t.size - 1 = m := by omega
      have hmA : (0 : Int) ≤ (m : Int) := by omega
      have hmz : (m : Int) < (t.size : Int) := by omega
      have hmz2 : (m : Int) ≤ (t.size : Int) := by omega
      have hd0 : (0 : Int) < (t.size : Int) := by omega
      have HM := Lib.hid hm
      clear hm
      obtain ⟨b, hb⟩ : ∃ b, t[m] = b := ⟨_, rfl⟩
      have HBT := Lib.hid hb
      by_cases hbl : (b == 32) = true
      · have hb32 : b = 32 := beq_iff_eq.1 hbl
        have he : ((t[m].toNat : Int) == 32) = true := by rw [hb, hb32]; rfl
        have HT2 : Hid (trimR (t.extract 0 m).data.toList = trimR s.data.toList) := by
          show _ = _
          rw [← HT.out, HSN.out, hb, hb32, trimR_blank]
        have HEX := Lib.hid hex
        clear hb hex hbl hb32
        go_wp2
        go_roundg m
        case measure => have := HM.out; omega
        case rel => exact ⟨_, rfl, Nat.le_of_eq HEX.out, by rw [HEX.out]; omega, HT2, HW⟩
      · have hbl2 : (b == 32) = false := by simpa using hbl
        have he : ((t[m].toNat : Int) == 32) = false := by
          rw [hb]
          refine beq_eq_false_iff_ne.2 fun hh => ?_
          have : b = 32 := by
            refine UInt8.toNat_inj.1 ?_
            have h7 : (32 : UInt8).toNat = 32 := rfl
            omega
          rw [this] at hbl2
          cases hbl2
        have HR : Hid (t = strL (trimR s.data.toList)) := by
          show _ = _
          refine ba_ext ?_
          rw [strL_data, ← HT.out, HSN.out, hb, trimR_none _ hbl2]
        clear hb hex hbl hbl2
        go_wp2
        go_ret
        exact ⟨ret_str HR.out, HW.out⟩
    · have hd0 : ¬ (0 : Int) < (t.size : Int) := by omega
      have HR : Hid (t = strL (trimR s.data.toList)) := by
        show _ = _
        have h1 : t.data.toList = [] := by
          refine List.eq_nil_of_length_eq_zero ?_
          rw [← Lib.size_eq]
          omega
        refine ba_ext ?_
        rw [strL_data, ← HT.out, h1]
        rfl
      go_wp2
      go_ret
      exact ⟨ret_str HR.out, HW.out⟩
set_option maxHeartbeats 4000000 in
set_option maxRecDepth 100000 in
theorem refAlign_any (A : Option Addr) (n c : Nat) (L : List (List ByteArray)) (w : World) (hL : RowsR w w.heap.size A n L) (hz : SzL L) :
    Calls Tryd.prog 26 #[.slice A n c] w fun e w' => ∃ v, e = .returned v ∧ OwnS w' w.heap.size v (alignL L) ∧ Below w.heap.size w w' := by
  have HL := Lib.hid hL
  have HZ := Lib.hid hz
  have HLN := Lib.hid hL.len
  have hn : n ≤ 100000 := by have := hL.len; have := hz.1; omega
  have HCO := Lib.hid (refColumns_any A n c L w hL hz)
  have hnm := hz.nmax
  clear hL hz
  go_enter Tryd.func26, Tryd.ntmps26
  go_wp2_with fail
  refine HCO.out.mono ?_
  rintro e wc ⟨v, rfl, hown, hb⟩
  obtain ⟨CA, cc, rfl, _, _, hir⟩ := hown.form
  rw [cols_len] at hir ⊢
  have HCR := Lib.hid hir
  have HBC := Lib.hid hb
  obtain ⟨N, hN⟩ : ∃ N, nmax L = N := ⟨_, rfl⟩
  have HN := Lib.hid hN
  rw [hN] at hnm HCR ⊢
  clear hir hb hown hN HCO
  go_wp2_with fail
  go_loopw [3, 5] (fun v3 v5 wr => ∃ i : Nat, i ≤ n ∧ v5 = .int .i64 i ∧ Hid (OwnS wr wc.heap.size v3 ((L.take i).map fun r => lineL (cols L) r)) ∧ Hid (Below wc.heap.size wc wr)) (fun _ v5 _ => n - (intOf v5).toNat)
  case atStart => exact ⟨0, Nat.zero_le _, rfl, (by rw [List.take_zero]; exact OwnS.nil _ _), Below.refl _ _⟩
  case round =>
    obtain ⟨i, hi, rfl, HO, HBR⟩ := hrel
    obtain ⟨w0, hw0⟩ : ∃ w0, wr = w0 := ⟨_, rfl⟩
    rw [hw0] at HO HBR ⊢
    clear hw0
    by_cases hlt : i < n
    · have hiz : (i : Int) < (n : Int) := by omega
      have hiA : (0 : Int) ≤ (i : Int) := by omega
      obtain ⟨ad, r, RA, rn, rc, rfl, hadb, hr, hcr, hsr, _, _⟩ := HL.out.at_ hlt
      have HCRW : Hid (∀ W, Below wc.heap.size wc W → W.cell? (ad.add i) = some (.slice RA rn rc)) := fun W hW => ((HBC.out.trans (hW.mono HBC.out.size)).cell (by rw [block_of_add]; exact hadb)).trans hcr
      have HR := Lib.hid hr
      have HSR := Lib.hid hsr
      have HRN : Hid (r.length = rn) := hsr.len
      have hrn : rn ≤ 100000 := by have := HRN.out; have := (HZ.out.row hr).1; omega
      have HSZ := Lib.hid (HZ.out.row hr)
      have HNX : Hid ((L.take (i + 1)).map (fun r => lineL (cols L) r) = ((L.take i).map fun r => lineL (cols L) r) ++ [lineL (cols L) r]) := by show _ = _; rw [take_at2 hr, List.map_append]; rfl
      have hll : ((L.take i).map fun r => lineL (cols L) r).length ≤ i := by rw [List.length_map, List.length_take]; omega
      obtain ⟨ll, hlq⟩ : ∃ ll, ((L.take i).map fun r => lineL (cols L) r) = ll := ⟨_, rfl⟩
      rw [hlq] at HO HNX hll
      have HI := Lib.hid hlt
      clear hcr hsr hr hlq
      go_wp2_with fail
      have HBR0 := HBR
      have HO0 := HO
      go_loopw [6, 7] (fun v6 v7 wi => ∃ (k : Nat) (s : ByteArray), k ≤ N ∧ v7 = .int .i64 k ∧ v6 = .string s ∧ Hid (s.data.toList = lineG (cols L) r k) ∧ Hid (Below w0.heap.size w0 wi)) (fun _ v7 _ => N - (intOf v7).toNat)
      case atStart => exact ⟨0, ⟨#[]⟩, Nat.zero_le _, rfl, rfl, rfl, Below.refl _ _⟩
      case round =>
        obtain ⟨k, s, hk, rfl, rfl, HS, HBB⟩ := hrel
        obtain ⟨wi, hwi⟩ : ∃ wi, wi = wr := ⟨_, rfl⟩
        rw [← hwi] at HBB ⊢
        clear hwi
        have hlk : s.size ≤ 10400100000 := by have := lineG_len (cols L) r HSZ.out k; rw [← HS.out, ← Lib.size_eq] at this; omega
        by_cases hkl : k < N
        · have hkz : (k : Int) < (N : Int) := by omega
          have hkA : (0 : Int) ≤ (k : Int) := by omega
          obtain ⟨cd, x, rfl, hcb, hx, hcx⟩ := HCR.out.at_ hkl
          obtain rfl : x = (colAt L k : Int) := by
            rw [cols_at (by rw [HN.out]; exact hkl)] at hx
            exact (Option.some.inj hx).symm
          have HBI : Hid (Below wc.heap.size wc wi) := HBR.out.trans (HBB.out.mono HBR.out.size)
          have HBW : Hid (Below w.heap.size w wi) := HBC.out.trans (HBI.out.mono HBC.out.size)
          have hcq : ∀ p : BW wi, p.at_.cell? (cd.add k) = some (.int .i64 (colAt L k : Int)) := fun p => ((HBI.out.trans (p.bel.mono HBI.out.size)).cell (by rw [block_of_add]; exact hcb)).trans hcx
          have hcr0 : ∀ p : BW wi, p.at_.cell? (ad.add i) = some (.slice RA rn rc) := fun p => HCRW.out _ (HBI.out.trans (p.bel.mono HBI.out.size))
          obtain ⟨t, ht⟩ : ∃ t, cellB r k = t := ⟨_, rfl⟩
          have hts := HSZ.out.cellB k
          have HCE : Hid (∀ p : BW wi, Calls Tryd.prog 35 #[.slice RA rn rc, .int .i64 (k : Int)] p.at_ fun e w' => e = .returned (.string t) ∧ p.at_ = w') := fun p => by
            rw [← ht]
            exact cell_any RA rn rc r k p.at_ (SR.on HSR.out (HBW.out.trans (p.bel.mono HBW.out.size))) (by omega) (by omega)
          rw [ht] at hts
          have HPD := Lib.hid fun W => refPad_any t (colAt L k : Int) W (by omega)
          have hps := padB_size t (colAt L k : Int)
          have HT := Lib.hid ht
          clear hx hcx ht
          by_cases hk0 : 0 < k
          · have hk0z : (0 : Int) < (k : Int) := by omega
            have hc1 : s.size + (⟨#[32]⟩ : ByteArray).size ≤ 9223372036854775807 := by
              have : (⟨#[32]⟩ : ByteArray).size = 1 := rfl
              omega
            have hc2 : (s ++ ⟨#[32]⟩).size = s.size + 1 := by rw [Lib.size_eq, app_data, List.length_append, ← Lib.size_eq]; rfl
            have HNL : Hid ((s ++ ⟨#[32]⟩ ++ padB t (colAt L k : Int)).data.toList = lineG (cols L) r (k + 1)) := by
              show _ = lineG (cols L) r k ++ (if 0 < k then [32] else []) ++ pad (cellB r k).data.toList ((cols L).getD k 0)
              rw [if_pos hk0, HT.out, cols_getD, app_data, app_data, HS.out]
              unfold padB
              rw [strL_data]
            obtain ⟨s2, hs2⟩ : ∃ s2, s ++ ⟨#[32]⟩ = s2 := ⟨_, rfl⟩
            have hc3 : s2.size + (padB t (colAt L k : Int)).size ≤ 9223372036854775807 := by rw [← hs2, hc2]; omega
            rw [hs2] at HNL
            have hcat2 : s ++ (⟨#[32]⟩ : ByteArray) = s2 := hs2
            clear hc2 hs2
            go_wp2_with fail
            refine wp_region_quiet_below (by kernel_rfl) (by kernel_rfl) ?_
            repeat (go_big_quiet_step ((first | (go_at_call 35; exact same_quiet (HCE.out _)) | (go_at_call 16; exact below_quiet (HPD.out _)))))
            refine wpQuiet_nil ?_
            intro w1 hw'
            have hb1 := bw_below hw'
            have HBB1 : Hid (Below w0.heap.size w0 w1) := HBB.out.trans (hb1.mono HBB.out.size)
            clear hw' hb1 hcq hcr0
            go_wp2
            go_roundw
            case rel => exact ⟨k + 1, _, by omega, by go_num, rfl, HNL, HBB1⟩
            case measure => simp [intOf]; omega
          · have hk0z : ¬ (0 : Int) < (k : Int) := by omega
            have hk00 : ¬ (0 : Int) < (k : Int) := hk0z
            have HNL : Hid ((s ++ padB t (colAt L k : Int)).data.toList = lineG (cols L) r (k + 1)) := by
              show _ = lineG (cols L) r k ++ (if 0 < k then [32] else []) ++ pad (cellB r k).data.toList ((cols L).getD k 0)
              rw [if_neg hk0, HT.out, cols_getD, app_data, HS.out, List.append_nil]
              unfold padB
              rw [strL_data]
            have hc3 : s.size + (padB t (colAt L k : Int)).size ≤ 9223372036854775807 := by omega
            go_wp2_with fail
            refine wp_region_quiet_below (by kernel_rfl) (by kernel_rfl) ?_
            repeat (go_big_quiet_step ((first | (go_at_call 35; exact same_quiet (HCE.out _)) | (go_at_call 16; exact below_quiet (HPD.out _)))))
            refine wpQuiet_nil ?_
            intro w1 hw'
            have hb1 := bw_below hw'
            have HBB1 : Hid (Below w0.heap.size w0 w1) := HBB.out.trans (hb1.mono HBB.out.size)
            clear hw' hb1 hcq hcr0
            go_wp2
            go_roundw
            case rel => exact ⟨k + 1, _, by omega, by go_num, rfl, HNL, HBB1⟩
            case measure => simp [intOf]; omega
        · obtain rfl : N = k := by omega
          have hkz : ¬ (N : Int) < (N : Int) := by omega
          have HLL : Hid (strL (trimR s.data.toList) = lineL (cols L) r) := by
            show _ = _
            unfold lineL
            rw [HS.out, cols_len, HN.out]
          have HTR := Lib.hid fun W => refTrim_any s W (by omega)
          rw [HLL.out] at HTR
          clear HLL
          go_wp2_with fail
          refine (HTR.out _).mono ?_
          rintro e w3 ⟨rfl, rfl⟩
          have HO2 := Lib.hid (HO0.out.on HBB.out)
          have hsz2 : wc.heap.size ≤ wi.heap.size := Nat.le_trans HBR0.out.size HBB.out.size
          go_wp2_with (at_builtin; refine wpList_app1 rfl (.tmp 39) (.tmp 42) 36 rfl wc.heap.size 9 16 (.string .empty) info_string rfl Tryd.underlying36 rfl HO2.out rfl rfl (by omega) (by omega) hsz2 ?_; rintro v7 w4 hown7 hb7 hs7 hk7; clear hk7)
          have hO3 := own_s (n := 0) hown7
          rw [← HNX.out] at hO3
          have HO3 := Lib.hid hO3
          have HB3 : Hid (Below wc.heap.size wc w4) := (HBR0.out.trans (HBB.out.mono HBR0.out.size)).trans hb7
          clear hO3 hown7 hb7 hs7
          have hi1 : i + 1 ≤ n := HI.out
          go_wp2
          go_roundw
          case rel => exact ⟨i + 1, hi1, by go_num, HO3, HB3⟩
          case measure => have := HI.out; simp [intOf]; omega
    · obtain rfl : n = i := by omega
      have hiz : ¬ (n : Int) < (n : Int) := by omega
      have h0 := HO.out
      rw [List.take_of_length_le (by rw [HLN.out]; exact Nat.le_refl _)] at h0
      have HO5 := Lib.hid h0
      clear h0
      go_wp2
      go_ret
      exact ⟨_, rfl, own_base HO5.out HBC.out.size, HBC.out.trans (HBR.out.mono HBC.out.size)⟩
end Go.Proofs.YtacfeabdeaikhaaDoor
