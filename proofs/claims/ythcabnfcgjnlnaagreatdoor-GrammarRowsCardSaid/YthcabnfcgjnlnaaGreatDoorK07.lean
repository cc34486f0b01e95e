import Derived.Test.YthcabnfcgjnlnaaGreatDoorK06
import Derived.Laws.StructEq
import Derived.Lib.Join
import Derived.Lib.MinMax
/-
  Align, and that of the reference.
-/
namespace Go.Proofs.YthcabnfcgjnlnaaGreatDoor
open Go.RowKit Ru Lay
attribute [local go_sem ↓] Go.wp_at_zero Go.wp_at_succ
set_option linter.unusedVariables false
set_option linter.unusedSimpArgs false

/-- A strings.Builder of the call's own holds the bytes l. -/
def Bld (w : World) (B b : Nat) (l : List UInt8) : Prop := Lib.IsBuilder 96 5 B b (Lib.byteCells l) w
theorem Bld.new (w : World) : Bld (w.alloc (.cells #[.pointer none, .slice none 0 0] 96)) w.heap.size w.heap.size [] := Lib.fresh_isBuilder _ _ w
theorem builderAt_on {T e : TypeId} {B b : Nat} {p : Value} {bs : List Value} {w w' : World} (h : Lib.BuilderAt T e B b p bs w) (hb : Below w.heap.size w w') : Lib.BuilderAt T e B b p bs w' := by
  have hlt := h.lt
  obtain ⟨hB, v, hk, hown, hne⟩ := h
  exact ⟨hB, v, (hb.block b hlt).trans hk, own_below hown hb, hne⟩
theorem Bld.on {w w' : World} {B b : Nat} {l : List UInt8} (h : Bld w B b l) (hb : Below w.heap.size w w') : Bld w' B b l := h.elim (fun x => .inl (builderAt_on x hb)) (fun x => .inr (builderAt_on x hb))
theorem writeByte_any (B b : Nat) (l : List UInt8) (w : World) (h : Bld w B b l) (hl : l.length + 1 ≤ 140737488355328) (hB : B ≤ w.heap.size) :
    Calls Tryz.prog 95 #[.pointer (some ⟨b, 0, none⟩), .int .u8 32] w fun e w' => e = .returned .nilIface ∧ Bld w' B b (l ++ [32]) ∧ Below B w w' := by
  refine (Tryz.Builder_WriteByte B b (Lib.byteCells l) 32 w h (by rw [Lib.byteCells_length]; exact hl) hB).mono ?_
  rintro e w' ⟨rfl, h1, h2⟩
  refine ⟨rfl, ?_, h2⟩
  unfold Bld
  rw [Lib.byteCells_append]
  exact .inr h1
theorem writeStr_any (B b : Nat) (l : List UInt8) (s : ByteArray) (w : World) (h : Bld w B b l) (hl : l.length + s.size ≤ 140737488355328) (hB : B ≤ w.heap.size) :
    Calls Tryz.prog 64 #[.pointer (some ⟨b, 0, none⟩), .string s] w fun e w' => e = .returned (.tuple #[.int .i64 s.size, .nilIface]) ∧ Bld w' B b (l ++ s.data.toList) ∧ Below B w w' := by
  refine (Tryz.Builder_WriteString B b (Lib.byteCells l) s w h (by rw [Lib.byteCells_length]; exact hl) hB).mono ?_
  rintro e w' ⟨rfl, h1, h2⟩
  refine ⟨rfl, ?_, h2⟩
  unfold Bld
  rw [Lib.byteCells_append]
  exact .inr h1
theorem bldStr_any (B b : Nat) (l : List UInt8) (w : World) (h : Bld w B b l) (hB : B ≤ w.heap.size) :
    Calls Tryz.prog 65 #[.pointer (some ⟨b, 0, none⟩)] w fun e w' => e = .returned (.string (strL l)) ∧ Below B w w' := Tryz.Builder_String_any B b l w h hB
theorem trim_any (s : ByteArray) (w : World) (hs : s.size ≤ 9223372036854775807) :
    Calls Tryz.prog 97 #[.string s, .string ⟨#[32]⟩] w fun e w' => e = .returned (.string (strL (trimR s.data.toList))) ∧ w' = w := Tryz.strings_TrimRight_one s 32 (by decide) w hs
/-- A row of strings of the call's own. -/
def OwnS (w : World) (base : Nat) (v : Value) (l : List ByteArray) : Prop := w.ownsRow base 9 1 v l.length (l.map .string)
theorem OwnS.nil (w : World) (base : Nat) : OwnS w base (.slice none 0 0) [] := World.ownsRow_nil _ _ _ _
theorem OwnS.on {w w' : World} {base : Nat} {v : Value} {l : List ByteArray} (h : OwnS w base v l) (hb : Below w.heap.size w w') : OwnS w' base v l := own_below h hb
theorem OwnS.form {w : World} {base : Nat} {v : Value} {l : List ByteArray} (h : OwnS w base v l) : ∃ A c, v = .slice A l.length c ∧ l.length ≤ c ∧ c ≤ 9223372036854775807 ∧ SR w w.heap.size A l.length l := own_form h
theorem lineG_len (c : List Int) (r : List ByteArray) (hr : SzR r) : ∀ k, (lineG c r k).length ≤ k * 104001
  | 0 => Nat.zero_le _
  | k + 1 => by
    have ih := lineG_len c r hr k
    have h1 := pad_len (cellB r k).data.toList (c.getD k 0)
    have h2 := hr.cellB k
    rw [Lib.size_eq] at h2
    show (lineG c r k ++ (if 0 < k then [32] else []) ++ pad (cellB r k).data.toList (c.getD k 0)).length ≤ _
    rw [List.length_append, List.length_append]
    have h3 : (if 0 < k then [32] else [] : List UInt8).length ≤ 1 := by split <;> simp
    omega
theorem own_s {w : World} {base n : Nat} {v : Value} {l : List ByteArray} {s : ByteArray} (h : w.ownsRow base 9 1 v (l.length + 1) (l.map .string ++ [.string s])) : OwnS w base v (l ++ [s]) := by
  show World.ownsRow _ _ _ _ _ _ _
  rw [List.length_append, List.length_singleton, List.map_append]
  exact h

set_option maxHeartbeats 4000000 in
set_option maxRecDepth 100000 in
theorem align_any (A : Option Addr) (n c : Nat) (L : List (List ByteArray)) (w : World) (hL : RowsC w w.heap.size A n L) (hz : SzL L) (hT : Tabs w) :
    Calls Tryz.prog 72 #[.slice A n c] w fun e w' => ∃ v, e = .returned v ∧ OwnS w' w.heap.size v (alignL L) ∧ Below w.heap.size w w' := by
  have HT := Lib.hid hT
  have HL := Lib.hid hL
  have HZ := Lib.hid hz
  have HLN := Lib.hid hL.len
  have hn : n ≤ 100000 := by have := hL.len; have := hz.1; omega
  have HCO := Lib.hid (columns_any A n c L w hL hz hT)
  have hnm := hz.nmax
  clear hT hL hz
  go_enter Tryz.func72, Tryz.ntmps72
  go_wp2_with fail
  refine HCO.out.mono ?_
  rintro e wc ⟨v, rfl, hown, hb⟩
  obtain ⟨CA, cc, rfl, _, _, hir⟩ := hown.form
  rw [cols_len] at hir ⊢
  have HCR := Lib.hid hir
  have HBC := Lib.hid hb
  obtain ⟨N, hN⟩ : ∃ N, nmax L = N := ⟨_, rfl⟩
  have HN := Lib.hid hN
  rw [hN] at hnm HCR ⊢
  clear hir hb hown hN HCO
  go_wp2_with fail
  go_loopw [4, 15] (fun v4 v15 wr => ∃ i : Nat, i ≤ n ∧ v15 = .int .i64 i ∧ Hid (OwnS wr wc.heap.size v4 ((L.take i).map fun r => lineL (cols L) r)) ∧ Hid (Below wc.heap.size wc wr)) (fun _ v15 _ => n - (intOf v15).toNat)
  case atStart => exact ⟨0, Nat.zero_le _, rfl, (by rw [List.take_zero]; exact OwnS.nil _ _), Below.refl _ _⟩
  case round =>
    obtain ⟨i, hi, rfl, HO, HBR⟩ := hrel
    obtain ⟨w0, hw0⟩ : ∃ w0, wr = w0 := ⟨_, rfl⟩
    rw [hw0] at HO HBR ⊢
    clear hw0
    have HB : Hid (Below w.heap.size w w0) := HBC.out.trans (HBR.out.mono HBC.out.size)
    by_cases hlt : i < n
    · have hiz : (i : Int) < (n : Int) := by omega
      obtain ⟨ad, r, RA, rn, rc, rfl, hadb, hr, hcr, hsr, _, _⟩ := HL.out.at_ hlt
      have hcr0 : w0.cell? (ad.add i) = some (.slice RA rn rc) := (HB.out.cell (by rw [block_of_add]; exact hadb)).trans hcr
      have HR := Lib.hid hr
      have HSR := Lib.hid hsr
      have HRN : Hid (r.length = rn) := hsr.len
      have hrn : rn ≤ 100000 := by have := HRN.out; have := (HZ.out.row hr).1; omega
      have HSZ := Lib.hid (HZ.out.row hr)
      have HNX : Hid ((L.take (i + 1)).map (fun r => lineL (cols L) r) = ((L.take i).map fun r => lineL (cols L) r) ++ [lineL (cols L) r]) := by show _ = _; rw [take_atG hr, List.map_append]; rfl
      have hll : ((L.take i).map fun r => lineL (cols L) r).length ≤ i := by rw [List.length_map, List.length_take]; omega
      obtain ⟨ll, hlq⟩ : ∃ ll, ((L.take i).map fun r => lineL (cols L) r) = ll := ⟨_, rfl⟩
      rw [hlq] at HO HNX hll
      have HI := Lib.hid hlt
      clear hcr hsr hr hlq
      go_wp2_with fail
      clear hcr0
      have HD0 := Lib.hid (Bld.new w0)
      have HBB0 : Hid (Below w0.heap.size w0 (w0.alloc (.cells #[.pointer none, .slice none 0 0] 96))) := below_new _ _
      obtain ⟨w1, hw1⟩ : ∃ w1, w0.alloc (.cells #[.pointer none, .slice none 0 0] 96) = w1 := ⟨_, rfl⟩
      rw [hw1] at HD0 HBB0 ⊢
      clear hw1
      go_loopw [21] (fun v21 wi => ∃ k : Nat, k ≤ N ∧ v21 = .int .i64 k ∧ Hid (Bld wi w0.heap.size w0.heap.size (lineG (cols L) r k)) ∧ Hid (Below w0.heap.size w0 wi)) (fun v21 _ => N - (intOf v21).toNat)
      case atStart => exact ⟨0, Nat.zero_le _, rfl, HD0, HBB0⟩
      case round =>
        clear HD0 HBB0
        obtain ⟨k, hk, rfl, HD, HBB⟩ := hrel
        obtain ⟨wi, hwi⟩ : ∃ wi, wi = wr := ⟨_, rfl⟩
        rw [← hwi] at HD HBB ⊢
        clear hwi
        by_cases hkl : k < N
        · have hkz : (k : Int) < (N : Int) := by omega
          obtain ⟨cd, x, rfl, hcb, hx, hcx⟩ := HCR.out.at_ hkl
          obtain rfl : x = (colAt L k : Int) := by
            rw [cols_at (by rw [HN.out]; exact hkl)] at hx
            exact (Option.some.inj hx).symm
          have hcx1 : wi.cell? (cd.add k) = some (.int .i64 (colAt L k : Int)) := (HBB.out.cell (by rw [block_of_add]; exact Nat.lt_of_lt_of_le hcb HBR.out.size)).trans ((HBR.out.cell (by rw [block_of_add]; exact hcb)).trans hcx)
          have hlk := lineG_len (cols L) r HSZ.out k
          clear hx hcx
          by_cases hkr : k < rn
          · have hkz2 : (k : Int) < (rn : Int) := by omega
            obtain ⟨rd, s, rfl, hrb, hs, hcs⟩ := HSR.out.at_ hkr
            have hcs1 : wi.cell? (rd.add k) = some (.string s) := (HBB.out.cell (by rw [block_of_add]; exact Nat.lt_of_lt_of_le hrb HB.out.size)).trans ((HB.out.cell (by rw [block_of_add]; exact hrb)).trans hcs)
            have HS : Hid (cellB r k = s) := cellB_some hs
            have hss := HSZ.out.cell hs
            clear hs hcs
            have HPD := Lib.hid fun W (hb : Below w.heap.size w W) => pad_any s (colAt L k : Int) W (by omega) (HT.out.on hb)
            by_cases hk0' : 0 < k
            · clear hkz2
              have HD0 := HD
              have hk0 : (0 : Int) < (k : Int) := by omega
              have hk1 : 0 < k := by omega
              have HNL : Hid (lineG (cols L) r (k + 1) = lineG (cols L) r k ++ [32] ++ (padB s (colAt L k : Int)).data.toList) := by
                show lineG (cols L) r k ++ (if 0 < k then [32] else []) ++ pad (cellB r k).data.toList ((cols L).getD k 0) = _
                rw [if_pos hk1, HS.out, cols_getD]
                unfold padB
                rw [strL_data]
              have hln1 : (lineG (cols L) r k ++ [32]).length ≤ 10400100001 := by rw [List.length_append, List.length_singleton]; omega
              have hszb := HBB.out.size
              go_wp2_with fail
              refine (writeByte_any _ _ _ _ HD0.out (by omega) hszb).mono ?_
              rintro e w2 ⟨rfl, hd2, hb2⟩
              have HD2 := Lib.hid hd2
              have HBB2 : Hid (Below w0.heap.size w0 w2) := HBB.out.trans hb2
              have HBZ2 : Hid (Below w.heap.size w w2) := HB.out.trans (HBB2.out.mono HB.out.size)
              obtain ⟨ln, hln⟩ : ∃ ln, lineG (cols L) r k ++ [32] = ln := ⟨_, rfl⟩
              rw [hln] at HD2 HNL hln1
              clear hd2 hb2 hln
              go_wp2_with fail

              refine (HPD.out _ HBZ2.out).mono ?_
              rintro e w3 ⟨rfl, hb3⟩
              have HD3 := Lib.hid (HD2.out.on hb3)
              have HBB3 : Hid (Below w0.heap.size w0 w3) := HBB2.out.trans (hb3.mono HBB2.out.size)
              have hps := padB_size s (colAt L k : Int)
              have hsz3 := HBB3.out.size
              clear hb3
              go_wp2_with fail
              refine (writeStr_any _ _ _ _ _ HD3.out (by omega) hsz3).mono ?_
              rintro e w4 ⟨rfl, hd4, hb4⟩
              have HD4 : Hid (Bld w4 w0.heap.size w0.heap.size (lineG (cols L) r (k + 1))) := by
                show Bld _ _ _ _
                rw [HNL.out]
                exact hd4
              have HBB4 : Hid (Below w0.heap.size w0 w4) := HBB3.out.trans hb4
              clear hd4 hb4
              go_wp2
              go_roundw
              case rel => exact ⟨k + 1, by omega, by go_num, HD4, HBB4⟩
              case measure => simp [intOf]; omega

            · skip
              have hk0 : ¬ (0 : Int) < (k : Int) := by omega
              have HK0 : Hid (k = 0) := by show _ = _; omega
              have HNL : Hid (lineG (cols L) r (k + 1) = lineG (cols L) r k ++ (padB s (colAt L k : Int)).data.toList) := by
                show lineG (cols L) r k ++ (if 0 < k then [32] else []) ++ pad (cellB r k).data.toList ((cols L).getD k 0) = _
                rw [if_neg (by omega), HS.out, cols_getD, List.append_nil]
                unfold padB
                rw [strL_data]
              have HD2 := HD
              have HBB2 := HBB
              have HBZ2 : Hid (Below w.heap.size w wi) := HB.out.trans (HBB2.out.mono HB.out.size)
              obtain ⟨ln, hln⟩ : ∃ ln, lineG (cols L) r k = ln := ⟨_, rfl⟩
              have hln1 : (lineG (cols L) r k).length ≤ 10400100001 := by omega
              rw [hln] at HD2 HNL hln1
              clear hln hlk HD hkz2
              go_wp2_with fail

              refine (HPD.out _ HBZ2.out).mono ?_
              rintro e w3 ⟨rfl, hb3⟩
              have HD3 := Lib.hid (HD2.out.on hb3)
              have HBB3 : Hid (Below w0.heap.size w0 w3) := HBB2.out.trans (hb3.mono HBB2.out.size)
              have hps := padB_size s (colAt L k : Int)
              have hsz3 := HBB3.out.size
              clear hb3
              go_wp2_with fail
              refine (writeStr_any _ _ _ _ _ HD3.out (by omega) hsz3).mono ?_
              rintro e w4 ⟨rfl, hd4, hb4⟩
              have HD4 : Hid (Bld w4 w0.heap.size w0.heap.size (lineG (cols L) r (k + 1))) := by
                show Bld _ _ _ _
                rw [HNL.out]
                exact hd4
              have HBB4 : Hid (Below w0.heap.size w0 w4) := HBB3.out.trans hb4
              clear hd4 hb4
              go_wp2
              go_roundw
              case rel => exact ⟨k + 1, by omega, by go_num, HD4, HBB4⟩
              case measure => simp [intOf]; omega
          · have hkz2 : ¬ (k : Int) < (rn : Int) := by omega
            obtain ⟨s, hs⟩ : ∃ s : ByteArray, s = ⟨#[]⟩ := ⟨_, rfl⟩
            have HS : Hid (cellB r k = s) := by show _ = _; rw [hs]; exact cellB_none (by rw [HRN.out]; omega)
            have hss : s.size ≤ 100000 := by rw [hs]; exact Nat.zero_le _
            have HSE := Lib.hid hs
            rw [← hs]
            clear hs
            have HPD := Lib.hid fun W (hb : Below w.heap.size w W) => pad_any s (colAt L k : Int) W (by omega) (HT.out.on hb)
            by_cases hk0' : 0 < k
            · clear hkz2
              have HD0 := HD
              have hk0 : (0 : Int) < (k : Int) := by omega
              have hk1 : 0 < k := by omega
              have HNL : Hid (lineG (cols L) r (k + 1) = lineG (cols L) r k ++ [32] ++ (padB s (colAt L k : Int)).data.toList) := by
                show lineG (cols L) r k ++ (if 0 < k then [32] else []) ++ pad (cellB r k).data.toList ((cols L).getD k 0) = _
                rw [if_pos hk1, HS.out, cols_getD]
                unfold padB
                rw [strL_data]
              have hln1 : (lineG (cols L) r k ++ [32]).length ≤ 10400100001 := by rw [List.length_append, List.length_singleton]; omega
              have hszb := HBB.out.size
              go_wp2_with fail
              refine (writeByte_any _ _ _ _ HD0.out (by omega) hszb).mono ?_
              rintro e w2 ⟨rfl, hd2, hb2⟩
              have HD2 := Lib.hid hd2
              have HBB2 : Hid (Below w0.heap.size w0 w2) := HBB.out.trans hb2
              have HBZ2 : Hid (Below w.heap.size w w2) := HB.out.trans (HBB2.out.mono HB.out.size)
              obtain ⟨ln, hln⟩ : ∃ ln, lineG (cols L) r k ++ [32] = ln := ⟨_, rfl⟩
              rw [hln] at HD2 HNL hln1
              clear hd2 hb2 hln
              go_wp2_with fail

              refine (HPD.out _ HBZ2.out).mono ?_
              rintro e w3 ⟨rfl, hb3⟩
              have HD3 := Lib.hid (HD2.out.on hb3)
              have HBB3 : Hid (Below w0.heap.size w0 w3) := HBB2.out.trans (hb3.mono HBB2.out.size)
              have hps := padB_size s (colAt L k : Int)
              have hsz3 := HBB3.out.size
              clear hb3
              go_wp2_with fail
              refine (writeStr_any _ _ _ _ _ HD3.out (by omega) hsz3).mono ?_
              rintro e w4 ⟨rfl, hd4, hb4⟩
              have HD4 : Hid (Bld w4 w0.heap.size w0.heap.size (lineG (cols L) r (k + 1))) := by
                show Bld _ _ _ _
                rw [HNL.out]
                exact hd4
              have HBB4 : Hid (Below w0.heap.size w0 w4) := HBB3.out.trans hb4
              clear hd4 hb4
              go_wp2
              go_roundw
              case rel => exact ⟨k + 1, by omega, by go_num, HD4, HBB4⟩
              case measure => simp [intOf]; omega

            · skip
              have hk0 : ¬ (0 : Int) < (k : Int) := by omega
              have HK0 : Hid (k = 0) := by show _ = _; omega
              have HNL : Hid (lineG (cols L) r (k + 1) = lineG (cols L) r k ++ (padB s (colAt L k : Int)).data.toList) := by
                show lineG (cols L) r k ++ (if 0 < k then [32] else []) ++ pad (cellB r k).data.toList ((cols L).getD k 0) = _
                rw [if_neg (by omega), HS.out, cols_getD, List.append_nil]
                unfold padB
                rw [strL_data]
              have HD2 := HD
              have HBB2 := HBB
              have HBZ2 : Hid (Below w.heap.size w wi) := HB.out.trans (HBB2.out.mono HB.out.size)
              obtain ⟨ln, hln⟩ : ∃ ln, lineG (cols L) r k = ln := ⟨_, rfl⟩
              have hln1 : (lineG (cols L) r k).length ≤ 10400100001 := by omega
              rw [hln] at HD2 HNL hln1
              clear hln hlk HD hkz2
              go_wp2_with fail

              refine (HPD.out _ HBZ2.out).mono ?_
              rintro e w3 ⟨rfl, hb3⟩
              have HD3 := Lib.hid (HD2.out.on hb3)
              have HBB3 : Hid (Below w0.heap.size w0 w3) := HBB2.out.trans (hb3.mono HBB2.out.size)
              have hps := padB_size s (colAt L k : Int)
              have hsz3 := HBB3.out.size
              clear hb3
              go_wp2_with fail
              refine (writeStr_any _ _ _ _ _ HD3.out (by omega) hsz3).mono ?_
              rintro e w4 ⟨rfl, hd4, hb4⟩
              have HD4 : Hid (Bld w4 w0.heap.size w0.heap.size (lineG (cols L) r (k + 1))) := by
                show Bld _ _ _ _
                rw [HNL.out]
                exact hd4
              have HBB4 : Hid (Below w0.heap.size w0 w4) := HBB3.out.trans hb4
              clear hd4 hb4
              go_wp2
              go_roundw
              case rel => exact ⟨k + 1, by omega, by go_num, HD4, HBB4⟩
              case measure => simp [intOf]; omega
        · obtain rfl : N = k := by omega
          have hkz : ¬ (N : Int) < (N : Int) := by omega
          have hlk := lineG_len (cols L) r HSZ.out N
          have hszb := HBB.out.size
          have HLL : Hid (strL (trimR (strL (lineG (cols L) r N)).data.toList) = lineL (cols L) r) := by
            show _ = _
            unfold lineL
            rw [strL_data, cols_len, HN.out]
          have HTR := Lib.hid fun W => trim_any (strL (lineG (cols L) r N)) W (by rw [strL_size]; omega)
          rw [HLL.out] at HTR
          obtain ⟨ln, hln⟩ : ∃ ln, lineG (cols L) r N = ln := ⟨_, rfl⟩
          rw [hln] at HD HTR
          clear hln hlk HLL
          go_wp2_with fail
          refine (bldStr_any _ _ _ _ HD.out hszb).mono ?_
          rintro e w2 ⟨rfl, hb2⟩
          have HBB2 : Hid (Below w0.heap.size w0 w2) := HBB.out.trans hb2
          clear hb2
          go_wp2_with fail
          refine (HTR.out _).mono ?_
          rintro e w3 ⟨rfl, rfl⟩
          have HO2 := Lib.hid (HO.out.on HBB2.out)
          have hsz2 : wc.heap.size ≤ w3.heap.size := Nat.le_trans HBR.out.size HBB2.out.size
          go_wp2_with (at_builtin; refine wpList_app1 rfl (.tmp 42) (.tmp 45) 45 rfl wc.heap.size 9 16 (.string .empty) info_string rfl Tryz.underlying45 rfl HO2.out rfl rfl (by omega) (by omega) hsz2 ?_; rintro v7 w4 hown7 hb7 hs7 hk7; clear hk7)
          have hO3 := own_s (n := 0) hown7
          rw [← HNX.out] at hO3
          have HO3 := Lib.hid hO3
          have HB3 : Hid (Below wc.heap.size wc w4) := (HBR.out.trans (HBB2.out.mono HBR.out.size)).trans hb7
          clear hO3 hown7 hb7 hs7
          have hi1 : i + 1 ≤ n := HI.out
          go_wp2
          go_roundw
          case rel => exact ⟨i + 1, hi1, by go_num, HO3, HB3⟩
          case measure => have := HI.out; simp [intOf]; omega
    · obtain rfl : n = i := by omega
      have hiz : ¬ (n : Int) < (n : Int) := by omega
      have h0 := HO.out
      rw [List.take_of_length_le (by rw [HLN.out]; exact Nat.le_refl _)] at h0
      have HO5 := Lib.hid h0
      clear h0
      go_wp2
      go_ret
      exact ⟨_, rfl, own_base HO5.out HBC.out.size, HB.out⟩
end Go.Proofs.YthcabnfcgjnlnaaGreatDoor
/-
  ROWS OF RECORDS: slices whose elements are structs of several cells, read, and owned by the call.
-/
namespace Go.Proofs.YthcabnfcgjnlnaaGreatDoor
open Go.RowKit
set_option linter.unusedVariables false
set_option linter.unusedSimpArgs false

section
variable {α : Type} {f : α → List Value} {s : Nat}
theorem flat_len (hf : ∀ x, (f x).length = s) (l : List α) : (l.flatMap f).length = l.length * s := by
  induction l with
  | nil => simp
  | cons x t ih => rw [List.flatMap_cons, List.length_append, hf, ih, List.length_cons, Nat.add_mul]; omega
theorem flat_at (hf : ∀ x, (f x).length = s) {l : List α} {k j : Nat} {x : α} (h : l[k]? = some x) (hj : j < s) : (l.flatMap f)[k * s + j]? = (f x)[j]? := by
  induction l generalizing k with
  | nil => simp at h
  | cons q t ih =>
    rw [List.flatMap_cons]
    cases k with
    | zero =>
      simp at h
      subst h
      rw [Nat.zero_mul, Nat.zero_add, List.getElem?_append_left (by rw [hf]; exact hj)]
    | succ k =>
      rw [List.getElem?_cons_succ] at h
      rw [List.getElem?_append_right (by rw [hf, Nat.add_mul]; omega), hf, show (k + 1) * s + j - s = k * s + j by rw [Nat.add_mul]; omega]
      exact ih h
end
theorem field_of {w : World} {p : Addr} {i : Nat} {v : Value} (hi : 0 < i) (h : w.cell? (p.add i) = some v) : w.cell? ⟨p.block, p.off + i, none⟩ = some v := by
  unfold Addr.add at h
  rw [if_neg (by omega)] at h
  exact h
/-- A slice of records, as it is read. -/
def RecR {α : Type} (f : α → List Value) (s : Nat) (w : World) (B : Nat) (A : Option Addr) (n : Nat) (l : List α) : Prop := Reads w B s A n (l.flatMap f) ∧ l.length = n
section
variable {α : Type} {f : α → List Value} {s B n k : Nat} {w w' : World} {A : Option Addr} {l : List α}
theorem RecR.on (h : RecR f s w w.heap.size A n l) (hb : Below w.heap.size w w') : RecR f s w' w'.heap.size A n l := ⟨Reads.on h.1 hb, h.2⟩
theorem RecR.below (h : RecR f s w B A n l) (hb : Below B w w') : RecR f s w' B A n l := ⟨h.1.below hb, h.2⟩
theorem RecR.none_ : RecR f s w B none 0 [] := ⟨⟨by simp, fun h => by omega⟩, rfl⟩
/-- The cells of one record: the first at the record's own address, the others behind it. -/
theorem RecR.at_ (hf : ∀ x, (f x).length = s) (hs : 0 < s) (h : RecR f s w B A n l) (hk : k < n) :
    ∃ ad x, A = some ad ∧ ad.block < B ∧ l[k]? = some x ∧ (∀ u, (f x)[0]? = some u → w.cell? (ad.add (k * s)) = some u) ∧ ∀ j u, 0 < j → (f x)[j]? = some u → w.cell? ⟨(ad.add (k * s)).block, (ad.add (k * s)).off + j, none⟩ = some u := by
  obtain ⟨ad, e, hb, hc⟩ := h.1.2 (by omega)
  have hlt : k < l.length := by have := h.2; omega
  have hp : l[k]? = some l[k] := List.getElem?_eq_getElem hlt
  refine ⟨ad, l[k], e, hb, hp, fun u hu => ?_, fun j u hj hu => ?_⟩
  · have := hc (k * s + 0) u (by rw [flat_at hf hp hs]; exact hu)
    exact this
  · have hjs : j < s := by have := (List.getElem?_eq_some_iff.1 hu).1; rw [hf] at this; exact this
    have := hc (k * s + j) u (by rw [flat_at hf hp hjs]; exact hu)
    rw [← add_of_add] at this
    exact field_of hj this
end
/-- A row of records of the call's own. -/
def OwnR {α : Type} (f : α → List Value) (s : Nat) (e : TypeId) (w : World) (base : Nat) (v : Value) (l : List α) : Prop := w.ownsRow base e s v l.length (l.flatMap f)
section
variable {α : Type} {f : α → List Value} {s base : Nat} {e : TypeId} {w w' : World} {v : Value} {l : List α}
theorem OwnR.nil : OwnR f s e w base (.slice none 0 0) [] := World.ownsRow_nil _ _ _ _
theorem OwnR.on (h : OwnR f s e w base v l) (hb : Below w.heap.size w w') : OwnR f s e w' base v l := own_below h hb
theorem OwnR.form (h : OwnR f s e w base v l) : ∃ A c, v = .slice A l.length c ∧ l.length ≤ c ∧ c ≤ 9223372036854775807 ∧ RecR f s w w.heap.size A l.length l := by
  rcases h.2 with ⟨rfl, h0⟩ | ⟨g, cap, cur, rfl, hg, hh, hn, hm, hs, ht⟩
  · have hl : l = [] := List.eq_nil_of_length_eq_zero h0
    subst hl
    exact ⟨none, 0, rfl, Nat.le_refl _, by omega, RecR.none_⟩
  · exact ⟨some ⟨g, 0, none⟩, cap, rfl, hn, by unfold maxLen at hm; exact hm, ⟨h.1, fun _ => ⟨_, rfl, (h.lt g rfl).2, h.cells (g := g) rfl⟩⟩, rfl⟩
theorem OwnR.snoc {x : α} (h : w.ownsRow base e s v (l.length + 1) (l.flatMap f ++ f x)) : OwnR f s e w base v (l ++ [x]) := by
  show World.ownsRow _ _ _ _ _ _ _
  rw [List.length_append, List.length_singleton, List.flatMap_append]
  simpa using h
end
/-- 'append(s, x)', x a record that has just been laid in a block of its own. -/
theorem wpList_appN {P : Program} {ops : Array Oper} {rest : List Oper} {o : Oper} {a : Act} {Q : Exit → Act → World → Prop} {w0 : World} {c : Array Value} (hgd : o.guard = none) (s yy : Operand) (t : TypeId)
    (ho : o.op = .call { callee := .builtin .append, args := #[s, yy], argTypes := #[t, t] })
    (base : Nat) (e : TypeId) (size bytes : Nat) (z : Value) (hinfo : (P.info? e).map (fun i => (i.zero, i.size, i.bytes)) = some (some z, size, bytes)) (hzc : z.cells.size = size) (hs0 : 0 < size) (ht : P.underlying t = some (.slice e))
    {v : Value} {n : Nat} {xs : List Value} (hs : a.eval s = v) (hown : w0.ownsRow base e size v n xs) (hy : a.eval yy = .slice (some ⟨w0.heap.size, 0, none⟩) 1 1) (hc : c.toList.length = size) (h1 : ∀ u ∈ c.toList, u.oneCell' = true)
    (h63 : n + 1 ≤ 9223372036854775807) (hbytes : (n + 1) * bytes ≤ 140737488355328) (hbase : base ≤ w0.heap.size)
    (h : ∀ v' w', w'.ownsRow base e size v' (n + 1) (xs ++ c.toList) → Below base w0 w' → wpList P ops Q rest (a.put o.dst v') w') :
    wpList P ops Q (o :: rest) a (w0.alloc (.cells c e)) := by
  obtain ⟨i0, hi, hz0, hz1, hz2⟩ := info_parts hinfo
  refine wpList_append_own_at _ hgd s yy t ho base e i0 z size bytes ht hi hz0 hz1 hz2 hzc hs0 v n xs hs (hown.alloc _) ⟨w0.heap.size, 0, none⟩ 1 1 c.toList hy (by rw [hc, Nat.one_mul]) ?_ h1 (by unfold maxLen; omega) hbytes (by simp; omega) ?_
  · intro j u hu
    have e1 : (⟨w0.heap.size, 0, none⟩ : Addr).add j = ⟨w0.heap.size, j, none⟩ := by
      unfold Addr.add
      split
      · rename_i h; simp [h]
      · simp
    rw [e1, World.cell?_alloc_at _ _ _ _ rfl]
    simpa using hu
  · intro v' w' hown' hgrow _ hat
    exact h v' w' hown' (below_append (Below.refl base w0) hbase hown (Nat.le_refl _) hgrow)
end Go.Proofs.YthcabnfcgjnlnaaGreatDoor
/-
  PLAIN LAW of the chapter on concordances: texts joined by blanks, and the lines. No program in sight.
-/
set_option linter.unusedVariables false
set_option linter.unusedSimpArgs false
namespace Go.Proofs.YthcabnfcgjnlnaaGreatDoor.Lay
open Go.Proofs.YthcabnfcgjnlnaaGreatDoor Go.Proofs.YthcabnfcgjnlnaaGreatDoor.Ru

/-- A line of a concordance. -/
structure Ht where
  rid : Int
  nid : Int
  left : List ByteArray
  key : ByteArray
  right : List ByteArray
end Go.Proofs.YthcabnfcgjnlnaaGreatDoor.Lay
/-
  LINES OF A CONCORDANCE, as they are read; two equal ones.
-/
namespace Go.Proofs.YthcabnfcgjnlnaaGreatDoor
open Go.RowKit Ru Lay
attribute [local go_sem ↓] Go.wp_at_zero Go.wp_at_succ
set_option linter.unusedVariables false
set_option linter.unusedSimpArgs false

/-- A line and where its two lists lie. -/
structure Hv extends Ht where
  la : Option Addr
  ln : Nat
  lc : Nat
  ra : Option Addr
  rn : Nat
  rc : Nat
def encH (h : Hv) : List Value := [.int .i64 h.rid, .int .i64 h.nid, .slice h.la h.ln h.lc, .string h.key, .slice h.ra h.rn h.rc]
theorem encH_len (h : Hv) : (encH h).length = 5 := rfl
/-- Texts that are short. -/
def SzS (l : List ByteArray) : Prop := l.length ≤ 1000 ∧ ∀ s ∈ l, s.size ≤ 1000
structure HvR (w : World) (B : Nat) (h : Hv) : Prop where
  left : SR w B h.la h.ln h.left
  right : SR w B h.ra h.rn h.right
  lc : h.ln ≤ h.lc ∧ h.lc ≤ 9223372036854775807
  rc : h.rn ≤ h.rc ∧ h.rc ≤ 9223372036854775807
theorem SR.below' {w w' : World} {B n : Nat} {A : Option Addr} {l : List ByteArray} (h : SR w B A n l) (hb : Below B w w') : SR w' B A n l := Reads.below h hb
theorem HvR.below {w w' : World} {B : Nat} {h : Hv} (hh : HvR w B h) (hb : Below B w w') : HvR w' B h := ⟨hh.left.below' hb, hh.right.below' hb, hh.lc, hh.rc⟩
theorem HvR.more {w : World} {B B' : Nat} {h : Hv} (hh : HvR w B h) (hB : B ≤ B') : HvR w B' h := ⟨Reads.more hh.left hB, Reads.more hh.right hB, hh.lc, hh.rc⟩
theorem HvR.on {w w' : World} {h : Hv} (hh : HvR w w.heap.size h) (hb : Below w.heap.size w w') : HvR w' w'.heap.size h := (hh.below hb).more hb.size
/-- A slice of lines, as it is read. -/
def HitsR (w : World) (B : Nat) (A : Option Addr) (n : Nat) (l : List Hv) : Prop := RecR encH 5 w B A n l ∧ ∀ h ∈ l, HvR w B h
theorem HitsR.below {w w' : World} {B n : Nat} {A : Option Addr} {l : List Hv} (hh : HitsR w B A n l) (hb : Below B w w') : HitsR w' B A n l := ⟨hh.1.below hb, fun h hm => (hh.2 h hm).below hb⟩
theorem HitsR.more {w : World} {B B' n : Nat} {A : Option Addr} {l : List Hv} (hh : HitsR w B A n l) (hB : B ≤ B') : HitsR w B' A n l := ⟨⟨hh.1.1.more hB, hh.1.2⟩, fun h hm => (hh.2 h hm).more hB⟩
theorem HitsR.on {w w' : World} {n : Nat} {A : Option Addr} {l : List Hv} (hh : HitsR w w.heap.size A n l) (hb : Below w.heap.size w w') : HitsR w' w'.heap.size A n l := (hh.below hb).more hb.size
theorem HitsR.len {w : World} {B n : Nat} {A : Option Addr} {l : List Hv} (hh : HitsR w B A n l) : l.length = n := hh.1.2
theorem HitsR.at_ {w : World} {B n k : Nat} {A : Option Addr} {l : List Hv} (hh : HitsR w B A n l) (hk : k < n) :
    ∃ ad x, A = some ad ∧ ad.block < B ∧ l[k]? = some x ∧ HvR w B x ∧ w.cell? (ad.add (k * 5)) = some (.int .i64 x.rid) ∧ w.cell? ⟨(ad.add (k * 5)).block, (ad.add (k * 5)).off + 1, none⟩ = some (.int .i64 x.nid) ∧
      w.cell? ⟨(ad.add (k * 5)).block, (ad.add (k * 5)).off + 2, none⟩ = some (.slice x.la x.ln x.lc) ∧ w.cell? ⟨(ad.add (k * 5)).block, (ad.add (k * 5)).off + 3, none⟩ = some (.string x.key) ∧
      w.cell? ⟨(ad.add (k * 5)).block, (ad.add (k * 5)).off + 4, none⟩ = some (.slice x.ra x.rn x.rc) := by
  obtain ⟨ad, x, e, hb, hx, h0, hj⟩ := hh.1.at_ encH_len (by omega) hk
  exact ⟨ad, x, e, hb, hx, hh.2 x (List.mem_of_getElem? hx), h0 _ rfl, hj 1 _ (by omega) rfl, hj 2 _ (by omega) rfl, hj 3 _ (by omega) rfl, hj 4 _ (by omega) rfl⟩
end Go.Proofs.YthcabnfcgjnlnaaGreatDoor
/-
  Lines, and that of the reference.
-/
namespace Go.Proofs.YthcabnfcgjnlnaaGreatDoor
open Go.RowKit Ru Lay
attribute [local go_sem ↓] Go.wp_at_zero Go.wp_at_succ
set_option linter.unusedVariables false
set_option linter.unusedSimpArgs false

theorem addr_plain {w : World} {a : Addr} {v : Value} (h : w.cell? a = some v) : a = ⟨a.block, a.off, none⟩ := by
  obtain ⟨b, o, s⟩ := a
  cases s with
  | none => rfl
  | some k =>
    unfold World.cell? at h
    split at h
    · simp at h
    · cases h
theorem take_at2 {α : Type} {l : List α} {k : Nat} {x : α} (h : l[k]? = some x) : l.take (k + 1) = l.take k ++ [x] := by rw [List.take_add_one, h]; rfl
end Go.Proofs.YthcabnfcgjnlnaaGreatDoor
