/-
  ConcordAligned: the law, walked.
-/
import Derived.Test.YtdpllfgnppeneaaDoorLaw39A
namespace Go.Proofs.YtdpllfgnppeneaaDoor
open Go.RowKit Ru Lay
attribute [local go_sem ↓] Go.wp_at_zero Go.wp_at_succ
set_option linter.unusedVariables false
set_option linter.unusedSimpArgs false

def OkLeft (h : Ht) : Prop := ∃ d, points (joinB h.left) = some d ∧ Fresh d
theorem wid_fronted {h : Ht} {M : Nat} (hk : OkLeft h) (hm : leftW h ≤ M) : wid (sp (M - leftW h) ++ joinB h.left) = M := by
  obtain ⟨d, h1, h2⟩ := hk
  rw [wid_front h1 h2]
  unfold leftW at hm ⊢
  omega
theorem tail_short {h : Ht} (hr : h.right = []) : (⟨#[32, 91]⟩ : ByteArray) ++ h.key ++ ⟨#[93]⟩ = strL (tailL h) := by
  refine ba_ext ?_
  rw [app_data, app_data, strL_data]
  unfold tailL
  rw [if_pos hr]
  simp
theorem tail_long {h : Ht} (hr : ¬ h.right = []) : (⟨#[32, 91]⟩ : ByteArray) ++ h.key ++ ⟨#[93]⟩ ++ ⟨#[32]⟩ ++ strL (joinB h.right) = strL (tailL h) := by
  refine ba_ext ?_
  rw [app_data, app_data, app_data, app_data, strL_data, strL_data]
  unfold tailL
  rw [if_neg hr]
  simp
theorem tailL_len {h : Ht} (hz : HvZ h) : (tailL h).length ≤ 1002004 := by
  have h1 := hz.key
  have h2 := joinB_len hz.right
  have h3 := h1
  rw [Lib.size_eq] at h3
  unfold tailL
  split <;> simp <;> omega
theorem lineH_len (M : Nat) (h : Ht) : (lineH M h).length = (sp (M - leftW h) ++ joinB h.left).length + (tailL h).length := by
  unfold lineH
  rw [List.length_append]
theorem front_len {h : Ht} {M : Nat} (hz : HvZ h) (hm : M ≤ 1001000) : (sp (M - leftW h) ++ joinB h.left).length ≤ 2002000 := by
  have := joinB_len hz.left
  rw [List.length_append, sp_len]
  omega
theorem line_back (M : Nat) (h : Ht) : (strL (lineH M h)).extract (sp (M - leftW h) ++ joinB h.left).length (strL (lineH M h)).size = strL (tailL h) := by
  refine ba_ext ?_
  rw [Lib.extract_data, strL_data, strL_data, strL_size]
  unfold lineH
  rw [List.drop_left, List.length_append, Nat.add_sub_cancel_left, List.take_length]
theorem line_head (M : Nat) (h : Ht) : (strL (lineH M h)).extract 0 (sp (M - leftW h) ++ joinB h.left).length = strL (sp (M - leftW h) ++ joinB h.left) := by
  refine ba_ext ?_
  rw [Lib.extract_data, strL_data, strL_data]
  unfold lineH
  rw [List.drop_zero, Nat.sub_zero, List.take_left]
theorem widB_strL (l : List UInt8) : widB (strL l) = wid l := by unfold widB; rw [strL_data]
set_option maxHeartbeats 8000000 in
set_option maxRecDepth 100000 in
theorem concordAligned_any (A : Option Addr) (n c : Nat) (l : List Hv) (w : World) (hl : HitsR w w.heap.size A n l) (hn : n ≤ 9223372036854775807) (hT : Tabs w) :
    Calls Tryd.prog 8 #[.slice A n c] w fun e w' => e = .returned (.bool true) ∧ Below w.heap.size w w' := by
  have HA := Lib.hid fun (W : World) (hW : Below w.heap.size w W) => awake39_any W (hT.on hW)
  have HB0 : Hid (Below w.heap.size w w) := Below.refl _ _
  by_cases hf : FewL (l.map Hv.toHt)
  · have HF := Lib.hid (few_yes (c := c) hl hn hf)
    have hn1 : n ≤ 1000 := by have h1 := hf.1; rw [List.length_map, hl.len] at h1; omega
    have hz : ∀ x ∈ l, HvZ x.toHt := fun x hx => (hf.2 _ (List.mem_map_of_mem hx)).sz
    have HZ := Lib.hid hz
    have HM := Lib.hid fun i => mostK_sz (l := l.map Hv.toHt) (fun x hx => by obtain ⟨y, hy, rfl⟩ := List.mem_map.1 hx; exact hz y hy) i
    have HLN := Lib.hid hl.len
    have HL := Lib.hid hl
    have HT := Lib.hid hT
    have HLI := Lib.hid fun (W : World) (hW : Below w.heap.size w W) => lines_any A n c l W (hl.on hW) hz hn1 (hT.on hW)
    clear hl hT hf hz
    go_enter Tryd.func8, Tryd.ntmps8
    go_wp2_with fail
    refine HF.out.mono ?_
    rintro e w1 ⟨rfl, rfl⟩
    go_wp2_with fail
    go_loopw [3, 4] (fun v3 v4 wr => ∃ i : Nat, i ≤ n ∧ v4 = .int .i64 i ∧ v3 = .int .i64 (mostK (l.map Hv.toHt) i : Nat) ∧ Hid (∀ j y, j < i → (l.map Hv.toHt)[j]? = some y → OkLeft y) ∧ Hid (Below w1.heap.size w1 wr)) (fun _ v4 _ => n - (intOf v4).toNat)
    case atStart => exact ⟨0, Nat.zero_le _, rfl, rfl, fun j y h => by omega, Below.refl _ _⟩
    case round =>
      clear HB0 HF
      obtain ⟨i, hi, rfl, rfl, HP, HB0⟩ := hrel
      by_cases hlt : i < n
      · have hiz : (i : Int) < (n : Int) := by omega
        have hiA : (0 : Int) ≤ (i : Int) := by omega
        obtain ⟨ad, x, rfl, hx, hr, hcells⟩ := HL.out.on_at hlt
        obtain ⟨q0, q1, q2, q3, q4⟩ := hcells wr HB0.out
        have HR := Lib.hid hr
        have hzx := HZ.out x (List.mem_of_getElem? hx)
        have HX := Lib.hid (hts_at hx)
        have HI := Lib.hid hlt
        have hmx := HM.out i
        have HMS : Hid (mostK (l.map Hv.toHt) (i + 1) = max (mostK (l.map Hv.toHt) i) (leftW x.toHt)) := mostK_succ HX.out
        have hlw := leftW_sz hzx
        have hszl := szB_left hzx
        have HJ := Lib.hid (lawJoined_any x.la x.ln x.lc x.left wr (HR.out.on HB0.out).left hzx.left)
        have HPT := Lib.hid fun W => points02_any (strL (joinB x.left)) W (by omega)
        have HW := Lib.hid fun W => refWidth_any (strL (joinB x.left)) W (by omega)
        obtain ⟨m, hm⟩ : ∃ m, mostK (l.map Hv.toHt) i = m := ⟨_, rfl⟩
        obtain ⟨LW, hLW⟩ : ∃ LW, leftW x.toHt = LW := ⟨_, rfl⟩
        rw [show widB (strL (joinB x.left)) = LW from (widB_left x.toHt).trans hLW] at HW
        rw [hm, hLW] at HMS
        rw [hm] at hmx ⊢
        rw [hLW] at hlw
        obtain ⟨o, ho⟩ : ∃ o, points (joinB x.left) = o := ⟨_, rfl⟩
        rw [strL_data, ho] at HPT
        have HO := Lib.hid ho
        obtain ⟨s, hs⟩ : ∃ s, strL (joinB x.left) = s := ⟨_, rfl⟩
        rw [hs] at HJ HPT HW
        clear hzx hszl hs hm hLW ho hr hx hcells
        go_wp2_with fail
        refine HJ.out.mono ?_
        rintro e w2 ⟨rfl, rfl⟩
        clear HJ q0 q1 q2 q3 q4
        go_wp2_with fail
        refine (HPT.out w2).mono ?_
        intro e w3 hpp
        obtain ⟨A1, n1, c1, rfl, hir, hn1', hb⟩ := hpp.val
        have HIR := Lib.hid hir
        have HB3 : Hid (Below w1.heap.size w1 w3) := HB0.out.trans (hb.mono HB0.out.size)
        clear hpp hb hir HPT
        cases o with
        | none =>
          go_wp2_with fail
          refine (HA.out _ HB3.out).mono ?_
          rintro e w5 ⟨rfl, hb5⟩
          have HB5 : Hid (Below w1.heap.size w1 w5) := HB3.out.trans (hb5.mono HB3.out.size)
          clear hb5
          go_wp2
          go_ret
          exact ⟨rfl, HB5.out⟩
        | some d =>
          cases d with
          | nil =>
            have HOK : Hid (OkLeft x.toHt) := ⟨[], HO.out, fun p t h => by cases h⟩
            have hn0 : n1 = 0 := by have := HIR.out.1; simpa [intsO, intV] using this.symm
            subst hn0
            go_wp2_with fail
            refine (HW.out w3).mono ?_
            rintro e w4 ⟨rfl, hb⟩
            have HB4 : Hid (Below w1.heap.size w1 w4) := HB3.out.trans (hb.mono HB3.out.size)
            have HP2 := Lib.hid (pre_next HP.out HX.out HOK.out)
            clear hb
            by_cases hml : m ≤ LW
            · have hmli : (m : Int) ≤ (LW : Int) := by omega
              have hnx : Hid ((mostK (l.map Hv.toHt) (i + 1) : Int) = (LW : Int)) := by show _ = _; rw [HMS.out, Nat.max_eq_right hml]
              go_wp2
              go_roundw
              case rel => exact ⟨i + 1, HI.out, by go_num, by rw [hnx.out]; first | rfl | (congr 1; omega), HP2, HB4⟩
              case measure => have := HI.out; simp [intOf]; omega
            · have hmli : ¬ (m : Int) ≤ (LW : Int) := by omega
              have hmlj : (LW : Int) ≤ (m : Int) := by omega
              have hnx : Hid ((mostK (l.map Hv.toHt) (i + 1) : Int) = (m : Int)) := by show _ = _; rw [HMS.out, Nat.max_eq_left (by omega)]
              go_wp2
              go_roundw
              case rel => exact ⟨i + 1, HI.out, by go_num, by rw [hnx.out]; first | rfl | (congr 1; omega), HP2, HB4⟩
              case measure => have := HI.out; simp [intOf]; omega
          | cons p t =>
            obtain ⟨ap, pp, rfl, hapb, hpp, hcp⟩ := HIR.out.at_ (k := 0) (by have := HIR.out.1; simp [intsO, intV] at this; omega)
            obtain rfl : pp = (p : Int) := by simpa [intsO] using hpp.symm
            have hn0 : 0 < n1 := by have := HIR.out.1; simp [intsO, intV] at this; omega
            have hn0z : (0 : Int) < (n1 : Int) := by omega
            have hcp0 : w3.cell? ap = some (.int .i64 (p : Int)) := by rw [Addr.add, if_pos rfl] at hcp; exact hcp
            clear hpp hcp
            cases hmk : markB (p : Int) with
            | true =>
              have HMK : Hid (Calls Tryd.prog 26 #[.int .i64 (p : Int)] w3 fun e w' => e = .returned (.bool true) ∧ w3 = w') := mono_eq (refMark_any p w3) (by rw [hmk])
              clear hmk
              go_wp2_with fail
              refine HMK.out.mono ?_
              rintro e w4 ⟨rfl, rfl⟩
              clear hcp0
              go_wp2_with fail
              refine (HA.out _ HB3.out).mono ?_
              rintro e w5 ⟨rfl, hb5⟩
              have HB5 : Hid (Below w1.heap.size w1 w5) := HB3.out.trans (hb5.mono HB3.out.size)
              clear hb5
              go_wp2
              go_ret
              exact ⟨rfl, HB5.out⟩
            | false =>
              have HMK : Hid (Calls Tryd.prog 26 #[.int .i64 (p : Int)] w3 fun e w' => e = .returned (.bool false) ∧ w3 = w') := mono_eq (refMark_any p w3) (by rw [hmk])
              have HOK : Hid (OkLeft x.toHt) := ⟨p :: t, HO.out, fun q u h => by injection h with h1 _; rw [← h1]; exact hmk⟩
              clear hmk
              go_wp2_with fail
              refine HMK.out.mono ?_
              rintro e w4 ⟨rfl, rfl⟩
              clear hcp0
              go_wp2_with fail
              refine (HW.out w3).mono ?_
              rintro e w5 ⟨rfl, hb⟩
              have HB4 : Hid (Below w1.heap.size w1 w5) := HB3.out.trans (hb.mono HB3.out.size)
              have HP2 := Lib.hid (pre_next HP.out HX.out HOK.out)
              clear hb
              by_cases hml : m ≤ LW
              · have hmli : (m : Int) ≤ (LW : Int) := by omega
                have hnx : Hid ((mostK (l.map Hv.toHt) (i + 1) : Int) = (LW : Int)) := by show _ = _; rw [HMS.out, Nat.max_eq_right hml]
                go_wp2
                go_roundw
                case rel => exact ⟨i + 1, HI.out, by go_num, by rw [hnx.out]; first | rfl | (congr 1; omega), HP2, HB4⟩
                case measure => have := HI.out; simp [intOf]; omega
              · have hmli : ¬ (m : Int) ≤ (LW : Int) := by omega
                have hmlj : (LW : Int) ≤ (m : Int) := by omega
                have hnx : Hid ((mostK (l.map Hv.toHt) (i + 1) : Int) = (m : Int)) := by show _ = _; rw [HMS.out, Nat.max_eq_left (by omega)]
                go_wp2
                go_roundw
                case rel => exact ⟨i + 1, HI.out, by go_num, by rw [hnx.out]; first | rfl | (congr 1; omega), HP2, HB4⟩
                case measure => have := HI.out; simp [intOf]; omega
      · obtain rfl : n = i := by omega
        have hiz : ¬ (n : Int) < (n : Int) := by omega
        have HMM : Hid (mostK (l.map Hv.toHt) (l.map Hv.toHt).length = mostK (l.map Hv.toHt) n) := by show _ = _; rw [List.length_map, HLN.out]
        have hmx := HM.out n
        have HALL : Hid (∀ j y, (l.map Hv.toHt)[j]? = some y → OkLeft y ∧ leftW y ≤ mostK (l.map Hv.toHt) n) := fun j y hy => by
          have hj := (List.getElem?_eq_some_iff.1 hy).1
          rw [List.length_map, HLN.out] at hj
          refine ⟨HP.out j y hj hy, ?_⟩
          rw [← HMM.out]
          exact leftW_le hy
        have HLL : Hid ((linesL (l.map Hv.toHt)).length = n) := by show _ = _; rw [linesL_len, List.length_map, HLN.out]
        have HAT : Hid (∀ j y, (l.map Hv.toHt)[j]? = some y → (linesL (l.map Hv.toHt))[j]? = some (strL (lineH (mostK (l.map Hv.toHt) n) y))) := fun j y hy => by
          unfold linesL
          rw [HMM.out, List.getElem?_map, hy]
          rfl
        obtain ⟨M, hM⟩ : ∃ M, mostK (l.map Hv.toHt) n = M := ⟨_, rfl⟩
        rw [hM] at hmx HALL HAT ⊢
        obtain ⟨ls, hls⟩ : ∃ ls, linesL (l.map Hv.toHt) = ls := ⟨_, rfl⟩
        rw [hls] at HLL HAT HLI
        clear hM hls HP HMM HM
        go_wp2_with fail
        refine (HLI.out wr HB0.out).mono ?_
        rintro e w2 ⟨v, rfl, h1, hb2⟩
        obtain ⟨A1, c1, rfl, _, _, hs1⟩ := OwnS.form h1
        rw [HLL.out] at hs1 ⊢
        have HS1 := Lib.hid hs1
        have HB2 : Hid (Below w1.heap.size w1 w2) := HB0.out.trans (hb2.mono HB0.out.size)
        clear h1 hb2 hs1 HLI HB0
        go_wp2_with fail
        go_loopw [9] (fun v9 wr => ∃ i : Nat, i ≤ n ∧ v9 = .int .i64 i ∧ Hid (Below w2.heap.size w2 wr)) (fun v9 _ => n - (intOf v9).toNat)
        case atStart => exact ⟨0, Nat.zero_le _, rfl, Below.refl _ _⟩
        case round =>
          obtain ⟨i, hi, rfl, HB0⟩ := hrel
          have HBW : Hid (Below w1.heap.size w1 wr) := HB2.out.trans (HB0.out.mono HB2.out.size)
          by_cases hlt : i < n
          · have hiz : (i : Int) < (n : Int) := by omega
            have hiA : (0 : Int) ≤ (i : Int) := by omega
            obtain ⟨ad, x, rfl, hx, hr, hcells⟩ := HL.out.on_at hlt
            obtain ⟨q0, q1, q2, q3, q4⟩ := hcells wr HBW.out
            obtain ⟨a1, ob, rfl, ha1, hob, hco⟩ := HS1.out.at_ hlt
            have hco2 : wr.cell? (a1.add i) = some (.string ob) := (HB0.out.cell (p := a1.add i) (by rw [block_of_add]; exact ha1)).trans hco
            have HR := Lib.hid hr
            have hzx := HZ.out x (List.mem_of_getElem? hx)
            have HX := Lib.hid (hts_at hx)
            have HI := Lib.hid hlt
            obtain ⟨hok, hlw⟩ := HALL.out i _ HX.out
            have hob2 := HAT.out i _ HX.out
            rw [hob] at hob2
            obtain rfl := Option.some.inj hob2
            have hkl := front_len (M := M) hzx hmx
            have hll := lineH_len M x.toHt
            have htl := tailL_len hzx
            have hbk := line_back M x.toHt
            have hhd := line_head M x.toHt
            have hwd := (widB_strL _).trans (wid_fronted hok hlw)
            obtain ⟨kk, hkk⟩ : ∃ kk, (sp (M - leftW x.toHt) ++ joinB x.left).length = kk := ⟨_, rfl⟩
            rw [hkk] at hkl hll hbk hhd
            rw [← hhd] at hwd
            have hts := tail_short (h := x.toHt)
            have htg := tail_long (h := x.toHt)
            have hts2 : (strL (tailL x.toHt)).size = (tailL x.toHt).length := strL_size _
            have hos2 : (strL (lineH M x.toHt)).size = (lineH M x.toHt).length := strL_size _
            have hszr := szB_right hzx
            have hkey := hzx.key
            have HJR := Lib.hid (lawJoined_any x.ra x.rn x.rc x.right wr (HR.out.on HBW.out).right hzx.right)
            obtain ⟨ob, hobe⟩ : ∃ ob, strL (lineH M x.toHt) = ob := ⟨_, rfl⟩
            obtain ⟨tl, htle⟩ : ∃ tl, strL (tailL x.toHt) = tl := ⟨_, rfl⟩
            obtain ⟨sr, hsr⟩ : ∃ sr, strL (joinB x.right) = sr := ⟨_, rfl⟩
            rw [hobe] at hbk hwd hos2 hco2
            rw [htle] at hbk hts htg hts2
            rw [hsr] at htg hszr HJR
            have hsub : (ob.size : Int) - (tl.size : Int) = (kk : Int) := by omega
            have hkob : kk ≤ ob.size := by omega
            have hbe : ((ob.extract kk ob.size).toList == tl.toList) = true := by rw [hbk, beq_self_eq_true]
            have hWD := Lib.hid (width_any (ob.extract 0 kk) wr (by
              have h1 : (ob.extract 0 kk).size ≤ kk := by rw [Lib.size_eq, Lib.extract_data]; simp; omega
              omega) (HT.out.on HBW.out))
            rw [hwd] at hWD
            have hobz : ob.size ≤ 9223372036854775807 := by omega
            have hkz : (kk : Int) ≤ (ob.size : Int) := by omega
            have hkn : ¬ (kk : Int) < 0 := by omega
            have HRN : Hid (x.right.length = x.rn) := HR.out.right.len
            have hc1 : (⟨#[32, 91]⟩ : ByteArray).size + x.key.size ≤ 9223372036854775807 := by
              have : (⟨#[32, 91]⟩ : ByteArray).size = 2 := rfl
              omega
            have hc2 : ((⟨#[32, 91]⟩ : ByteArray) ++ x.key).size + (⟨#[93]⟩ : ByteArray).size ≤ 9223372036854775807 := by
              have : (⟨#[32, 91]⟩ : ByteArray).size = 2 := rfl
              have : (⟨#[93]⟩ : ByteArray).size = 1 := rfl
              rw [ByteArray.size_append]; omega
            have hc3 : ((⟨#[32, 91]⟩ : ByteArray) ++ x.key ++ ⟨#[93]⟩).size + (⟨#[32]⟩ : ByteArray).size ≤ 9223372036854775807 := by
              have : (⟨#[32, 91]⟩ : ByteArray).size = 2 := rfl
              have : (⟨#[93]⟩ : ByteArray).size = 1 := rfl
              have : (⟨#[32]⟩ : ByteArray).size = 1 := rfl
              rw [ByteArray.size_append, ByteArray.size_append]; omega
            have hc4 : ((⟨#[32, 91]⟩ : ByteArray) ++ x.key ++ ⟨#[93]⟩ ++ ⟨#[32]⟩).size + sr.size ≤ 9223372036854775807 := by
              have : (⟨#[32, 91]⟩ : ByteArray).size = 2 := rfl
              have : (⟨#[93]⟩ : ByteArray).size = 1 := rfl
              have : (⟨#[32]⟩ : ByteArray).size = 1 := rfl
              simp only [ByteArray.size_append]; omega
            clear hr hx hcells hob hco hok hlw hkl hll htl hbk hhd hwd hts2 hos2 hzx hszr hkey hkk hobe htle hsr
            by_cases h0 : 0 < x.rn
            · have h0z : (0 : Int) < (x.rn : Int) := by omega
              have HTL := Lib.hid (htg (fun e => by have := HRN.out; rw [e] at this; simp at this; omega))
              clear hts htg
              go_wp2_with fail
              refine HJR.out.mono ?_
              rintro e w3 ⟨rfl, rfl⟩
              go_upto_region 21 with fail
              rw [HTL.out]
              go_wp2_with fail
              refine hWD.out.mono ?_
              rintro e w4 ⟨rfl, hb⟩
              have HB4 : Hid (Below w2.heap.size w2 w4) := HB0.out.trans (hb.mono HB0.out.size)
              clear hb
              go_wp2
              go_roundw
              case rel => exact ⟨i + 1, HI.out, by go_num, HB4⟩
              case measure => have := HI.out; simp [intOf]; omega
            · have h0z : ¬ (0 : Int) < (x.rn : Int) := by omega
              have hd0 : decide ((0 : Int) < (x.rn : Int)) = false := decide_eq_false h0z
              have HTL := Lib.hid (hts (List.eq_nil_of_length_eq_zero (by have := HRN.out; omega)))
              clear hts htg
              rw [HTL.out] at hc3 hc4
              go_upto_region 21 with fail
              rw [HTL.out]
              go_wp2_with fail
              refine hWD.out.mono ?_
              rintro e w4 ⟨rfl, hb⟩
              have HB4 : Hid (Below w2.heap.size w2 w4) := HB0.out.trans (hb.mono HB0.out.size)
              clear hb
              go_wp2
              go_roundw
              case rel => exact ⟨i + 1, HI.out, by go_num, HB4⟩
              case measure => have := HI.out; simp [intOf]; omega
          · obtain rfl : n = i := by omega
            have hiz : ¬ (n : Int) < (n : Int) := by omega
            go_wp2_with fail
            refine (HA.out _ HBW.out).mono ?_
            rintro e w5 ⟨rfl, hb5⟩
            have HB5 : Hid (Below w1.heap.size w1 w5) := HBW.out.trans (hb5.mono HBW.out.size)
            clear hb5
            go_wp2
            go_ret
            exact ⟨rfl, HB5.out⟩
  · have HF := Lib.hid (few_no (c := c) hl hn hf)
    clear hl hT hf
    go_enter Tryd.func8, Tryd.ntmps8
    go_wp2_with fail
    refine HF.out.mono ?_
    rintro e w1 ⟨rfl, rfl⟩
    go_wp2_with fail
    refine (HA.out _ HB0.out).mono ?_
    rintro e w5 ⟨rfl, hb5⟩
    have HB5 := Lib.hid hb5
    clear hb5
    go_wp2
    go_ret
    exact ⟨rfl, HB5.out⟩
end Go.Proofs.YtdpllfgnppeneaaDoor
