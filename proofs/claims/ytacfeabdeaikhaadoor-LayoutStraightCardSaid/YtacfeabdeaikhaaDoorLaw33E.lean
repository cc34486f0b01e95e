/-
  LayoutStraight, walked.
-/
import Derived.Test.YtacfeabdeaikhaaDoorGLawA
namespace Go.Proofs.YtacfeabdeaikhaaDoor
open Go.RowKit Ru Lay
set_option linter.unusedVariables false
set_option linter.unusedSimpArgs false

def begO (o : Option (List Nat)) : Bool :=
  match o with
  | none => false
  | some [] => true
  | some (p :: _) => !mk p
theorem begB_eq (s : ByteArray) : begB s = begO (points s.data.toList) := rfl
set_option maxHeartbeats 2000000 in
theorem begins_any (s : ByteArray) (w : World) (hs : s.size ≤ 1099511627) :
    Calls Tryd.prog 29 #[.string s] w fun e w' => e = .returned (.bool (begB s)) ∧ Below w.heap.size w w' := by
  have HP := Lib.hid (points02_any s w (by omega))
  obtain ⟨o, ho⟩ : ∃ o, points s.data.toList = o := ⟨_, rfl⟩
  rw [begB_eq, ho]
  rw [ho] at HP
  clear ho
  cases o with
  | none =>
    go_enter Tryd.func29, Tryd.ntmps29
    go_wp2_with fail
    refine HP.out.mono ?_
    intro e w1 hpp
    obtain ⟨A1, n1, c1, rfl, _, _, hb⟩ := hpp.val
    have HB1 : Hid (Below w.heap.size w w1) := hb
    clear hpp hb
    go_wp2
    go_ret
    exact ⟨rfl, HB1.out⟩
  | some d =>
    cases d with
    | nil =>
      go_enter Tryd.func29, Tryd.ntmps29
      go_wp2_with fail
      refine HP.out.mono ?_
      intro e w1 hpp
      obtain ⟨A1, n1, c1, rfl, hr1, _, hb⟩ := hpp.val
      obtain rfl : n1 = 0 := by have := hr1.len; simp [intsO] at this; omega
      have HB1 : Hid (Below w.heap.size w w1) := hb
      clear hpp hb hr1
      go_wp2
      go_ret
      exact ⟨rfl, HB1.out⟩
    | cons p t =>
      obtain ⟨mp, hmp⟩ : ∃ b, Hid (mk p = b) := ⟨_, rfl⟩
      have HMK : Hid (∀ W, Calls Tryd.prog 41 #[.int .i64 (p : Int)] W fun e w' => e = .returned (.bool mp) ∧ W = w') := fun W => mono_eq (refMark_any p W) (by rw [← hmp.out]; rfl)
      have HR : Hid (∀ x, x = mp → (!mk p) = !x) := fun x hx => by rw [hx, hmp.out]
      go_enter Tryd.func29, Tryd.ntmps29
      go_wp2_with fail
      refine HP.out.mono ?_
      intro e w1 hpp
      obtain ⟨A1, n1, c1, rfl, hr1, _, hb⟩ := hpp.val
      have hnp : 0 < n1 := by have := hr1.len; simp [intsO] at this; omega
      obtain ⟨ad, x, rfl, _, hx, hcx⟩ := IR.at_ hr1 hnp
      obtain rfl : x = (p : Int) := by simp [intsO] at hx; omega
      have hcx2 : w1.cell? ad = some (.int .i64 (p : Int)) := by rw [show ad.add 0 = ad by simp [Addr.add]] at hcx; exact hcx
      have he0 : ((n1 : Int) == 0) = false := beq_eq_false_iff_ne.2 (by omega)
      have hnz : ¬ n1 = 0 := by omega
      have HB1 : Hid (Below w.heap.size w w1) := hb
      clear hpp hb hr1 hx hcx
      go_wp2_with fail
      refine (HMK.out _).mono ?_
      rintro e w2 ⟨rfl, rfl⟩
      go_wp2
      go_ret
      exact ⟨ret_bool (HR.out _ rfl).symm, HB1.out⟩
theorem few_colE {L : List (List ByteArray)} (h : Few L) (k : Nat) : colAt L k ≤ 60 := colAt_le fun r hr s hs => (h.2 r hr).2 s hs
theorem colAt_ge {L : List (List ByteArray)} {r : List ByteArray} (h : r ∈ L) (k : Nat) : widB (cellB r k) ≤ colAt L k := by
  induction L with
  | nil => cases h
  | cons x t ih =>
    rcases List.mem_cons.1 h with rfl | h
    · exact Nat.le_max_left _ _
    · exact Nat.le_trans (ih h) (Nat.le_max_right _ _)
theorem lineL_end {c : List Int} {r : List ByteArray} {m : Nat} (h : m < (lineL c r).size) (h2 : (lineL c r).size = m + 1) : ¬ (lineL c r)[m] = 32 := by
  have h1 : (lineL c r).data.toList[m]? = some (lineL c r)[m] := by
    rw [List.getElem?_eq_getElem (by rw [← Lib.size_eq]; exact h)]
    rfl
  have h3 : (lineL c r).data.toList = trimR (lineG c r c.length) := by unfold lineL; rw [strL_data]
  refine trimR_end (l := lineG c r c.length) ?_
  rw [← h3, List.getLast?_eq_getElem?, ← Lib.size_eq, h2, Nat.add_sub_cancel]
  exact h1
theorem lineL_small {L : List (List ByteArray)} {r : List ByteArray} (h : Few L) (hr : r ∈ L) : (lineL (cols L) r).size ≤ 2000000 := by
  unfold lineL
  rw [strL_size]
  refine Nat.le_trans (trimR_len _) (Nat.le_trans (lineG_len (cols L) r (h.sz.2 r hr) _) ?_)
  rw [cols_len]
  have := nmax_le (n := 12) fun r hr => (h.2 r hr).1
  omega
theorem clusB_size {s : List UInt8} {u : ByteArray} (h : u ∈ clusB s) : u.size ≤ s.length := by
  unfold clusB at h
  cases hp : points s with
  | none => rw [hp] at h; cases h
  | some d =>
    rw [hp] at h
    obtain ⟨c, hc, rfl⟩ := List.mem_map.1 h
    obtain ⟨i, hi⟩ := List.getElem?_of_mem hc
    have h1 : Ru.encS d = Ru.encS ((clus d).take i).flatten ++ (Ru.encS c ++ Ru.encS ((clus d).drop (i + 1)).flatten) := by
      conv => lhs; rw [← clus_flatten d, ← List.take_append_drop i (clus d), drop_at hi]
      rw [List.flatten_append, List.flatten_cons, encS_app, encS_app]
    have h2 := congrArg List.length h1
    rw [encS_points hp, List.length_append, List.length_append] at h2
    unfold strC
    rw [strL_size]
    omega
theorem catB_take {l : List ByteArray} {q : Nat} {s : ByteArray} (h : l[q]? = some s) : catB (l.take (q + 1)) = catB (l.take q) ++ s.data.toList := by
  rw [take_at2 h]
  unfold catB
  rw [List.flatMap_append]
  simp
/-- What the loop over the columns finds. -/
theorem straight_row {L : List (List ByteArray)} {r : List ByteArray} (hf : Few L) (hr : r ∈ L) (hb : ∀ s ∈ r, begB s = true) {k : Nat} (hk : k < nmax L) :
    (fromK (cols L) k + (colAt L k : Int)).toNat ≤ (clusB (padB (lineL (cols L) r) 4000).data.toList).length ∧
    catB (((clusB (padB (lineL (cols L) r) 4000).data.toList).drop (fromK (cols L) k).toNat).take (colAt L k)) = pad (cellB r k).data.toList (colAt L k : Int) := by
  have h1 := straight (c := cols L) (r := r) (n := nmax L) (k := k) hb (fun k => by rw [cols_getD]; have := colAt_ge hr k; omega) (fun k => by rw [cols_getD]; have := colAt_le (L := L) (k := k) (n := 60) fun r hr s hs => (hf.2 r hr).2 s hs; omega) (by have := nmax_le (n := 12) fun r hr => (hf.2 r hr).1; omega) hk
  have h2 : (padB (lineL (cols L) r) 4000).data.toList = pad (trimR (lineG (cols L) r (nmax L))) 4000 := by
    unfold padB lineL
    rw [strL_data, strL_data, cols_len]
  rw [cols_getD, Int.toNat_natCast] at h1
  rw [h2]
  exact h1
set_option maxHeartbeats 4000000 in
set_option maxRecDepth 100000 in
theorem straight_law (A : Option Addr) (n c : Nat) (L : List (List ByteArray)) (w : World) (hL : RowsR w w.heap.size A n L) (hn : n ≤ 9223372036854775807) (hT : Tabs w) :
    Calls Tryd.prog 10 #[.slice A n c] w fun e w' => e = .returned (.bool true) ∧ Below w.heap.size w w' := by
  have HT := Lib.hid hT
  clear hT
  have HL := Lib.hid hL
  have HLN := Lib.hid hL.len
  clear hL
  by_cases hf : Few L
  · have HF := Lib.hid (few_yes (c := c) HL.out hn hf)
    have HZ := Lib.hid hf.sz
    have HFE := Lib.hid hf
    have hnm := nmax_le (L := L) (n := 12) fun r hr => (hf.2 r hr).1
    have HC3 : Hid (∀ k, 0 ≤ (cols L).getD k 0 ∧ (cols L).getD k 0 ≤ 300) := fun k => by
      rw [cols_getD]
      have := colAt_le (L := L) (k := k) (n := 60) fun r hr s hs => (hf.2 r hr).2 s hs
      omega
    have hn20 : n ≤ 20 := by rw [← HLN.out]; exact hf.1
    clear hf
    go_enter Tryd.func10, Tryd.ntmps10
    go_wp2_with fail
    refine HF.out.mono ?_
    rintro e w0 ⟨rfl, rfl⟩
    go_wp2_with fail
    refine (align_any A n c L w HL.out HZ.out HT.out).mono ?_
    rintro e w1 ⟨v, rfl, hown, hb⟩
    obtain ⟨A1, c1, rfl, _, _, hs⟩ := hown.form
    rw [alignL_len, HLN.out] at hs ⊢
    have HSX := Lib.hid hs
    have HB1 : Hid (Below w.heap.size w w1) := hb
    clear hown hs hb
    have hnn : ((n : Int) != (n : Int)) = false := bne_self_eq_false _
    go_wp2_with fail
    refine (columns_any A n c L w1 (HL.out.on HB1.out) HZ.out (HT.out.on HB1.out)).mono ?_
    rintro e w2 ⟨v, rfl, hown, hb⟩
    obtain ⟨A2, c2, rfl, _, _, hs⟩ := hown.form
    rw [cols_len] at hs ⊢
    obtain ⟨N, hN⟩ : ∃ N, nmax L = N := ⟨_, rfl⟩
    have HNN := Lib.hid hN
    rw [hN] at hs hnm ⊢
    have HS2 := Lib.hid hs
    have HS1 := Lib.hid (SR.on HSX.out hb)
    have HB2 : Hid (Below w.heap.size w w2) := HB1.out.trans (hb.mono HB1.out.size)
    clear hown hs hb hN hnn

    go_wp2_with fail
    go_loopw [5, 6] (fun v5 _ wr => ∃ i : Nat, i ≤ n ∧ v5 = .int .i64 i ∧ Hid (∀ j r, j < i → L[j]? = some r → ∀ s ∈ r, begB s = true) ∧ Hid (Below w2.heap.size w2 wr)) (fun v5 _ _ => n - (intOf v5).toNat)
    case atStart => exact ⟨0, Nat.zero_le _, rfl, fun j r h => by omega, Below.refl _ _⟩
    case round =>
      obtain ⟨i, hi, rfl, HP, HBR⟩ := hrel
      obtain ⟨w3, hw3⟩ : ∃ w3, w3 = wr := ⟨_, rfl⟩
      rw [← hw3] at HBR ⊢
      clear hw3
      have HB3 : Hid (Below w.heap.size w w3) := HB2.out.trans (HBR.out.mono HB2.out.size)
      by_cases hlt : i < n
      · have hiz : (i : Int) < (n : Int) := by omega
        have hiA : (0 : Int) ≤ (i : Int) := by omega
        obtain ⟨ad, r, RA, rn, rc, rfl, hadb, hr, hcr, hsr, hc1, hc2⟩ := HL.out.at_ hlt
        have HCR : Hid (∀ W, Below w2.heap.size w2 W → W.cell? (ad.add i) = some (.slice RA rn rc)) := fun W hW => ((HB2.out.trans (hW.mono HB2.out.size)).cell (by rw [block_of_add]; exact hadb)).trans hcr
        obtain ⟨ld, t, rfl, hlb, ht, hct⟩ := HS1.out.at_ hlt
        obtain rfl : t = lineL (cols L) r := by
          unfold alignL at ht
          rw [List.getElem?_map, hr] at ht
          simpa using ht.symm
        have hq : ∀ p : BW w3, p.at_.cell? (ld.add i) = some (.string (lineL (cols L) r)) := fun p => ((HBR.out.trans (p.bel.mono HBR.out.size)).cell (by rw [block_of_add]; exact hlb)).trans hct
        have HR := Lib.hid hr
        have HRN := Lib.hid hsr.len
        have HSR := Lib.hid hsr
        have HI := Lib.hid hlt
        have hls := lineL_small HFE.out (List.mem_of_getElem? hr)
        have hend := fun m (h1 : m < (lineL (cols L) r).size) (h2 : (lineL (cols L) r).size = m + 1) => lineL_end (c := cols L) (r := r) h1 h2
        have HEND := Lib.hid hend
        have HFR : Hid (FewR r) := HFE.out.2 r (List.mem_of_getElem? hr)
        have hrn : rn ≤ 12 := by have := HFR.out.1; rw [HRN.out] at this; exact this
        obtain ⟨t, ht2⟩ : ∃ t, lineL (cols L) r = t := ⟨_, rfl⟩
        rw [ht2] at hq hls HEND
        clear hr hcr hsr ht hct hend ht2
        by_cases h0 : 0 < t.size
        · obtain ⟨m, hm⟩ : ∃ m, t.size = m + 1 := ⟨t.size - 1, by omega⟩
          have hmt : m < t.size := by omega
          have hj1 : (t.size : Int) - 1 = (m : Int) := by omega
          have hj2 : IntKind.i64.wrap ((t.size : Int) - 1) = (m : Int) := by rw [hj1]; exact IntWalk.i64_in _ (by omega)
          have hmA : (0 : Int) ≤ (m : Int) := by omega
          have hmz : (m : Int) < (t.size : Int) := by omega
          have hd0 : (0 : Int) < (t.size : Int) := by omega
          have hd1 : decide ((0 : Int) < (t.size : Int)) = true := decide_eq_true hd0
          have hd2 : decide (0 < t.size) = true := decide_eq_true h0
          have hne := HEND.out m hmt hm
          have he : ((t[m].toNat : Int) == 32) = false := beq_eq_false_iff_ne.2 fun hh => hne (by
            refine UInt8.toNat_inj.1 ?_
            have h7 : (32 : UInt8).toNat = 32 := rfl
            omega)
          clear hne hm
          go_wp2_with fail
          refine wp_region_quiet_below (by kernel_rfl) (by kernel_rfl) ?_
          repeat (go_big_quiet_step (fail))
          refine wpQuiet_nil ?_
          intro w4 hw'
          have hb4 := bw_below hw'
          have HBR4 : Hid (Below w2.heap.size w2 w4) := HBR.out.trans (hb4.mono HBR.out.size)
          clear hw' hb4 hq
          have hcr4 := HCR.out _ HBR4.out
          go_wp2_with fail
          clear hcr4
          go_loopw [6] (fun v6 wr => ∃ k : Nat, k ≤ rn ∧ v6 = .int .i64 k ∧ Hid (∀ j s, j < k → r[j]? = some s → begB s = true) ∧ Hid (Below w2.heap.size w2 wr)) (fun v6 _ => rn - (intOf v6).toNat)
          case atStart => exact ⟨0, Nat.zero_le _, rfl, fun j r h => by omega, HBR4⟩
          case round =>
            obtain ⟨k, hk, rfl, HQ, HBK⟩ := hrel
            obtain ⟨w5, hw5⟩ : ∃ w5, w5 = wr := ⟨_, rfl⟩
            rw [← hw5] at HBK ⊢
            clear hw5
            have hcr5 := HCR.out _ HBK.out
            have HB5 : Hid (Below w.heap.size w w5) := HB2.out.trans (HBK.out.mono HB2.out.size)
            by_cases hkl : k < rn
            · have hkz : (k : Int) < (rn : Int) := by omega
              have hkA : (0 : Int) ≤ (k : Int) := by omega
              obtain ⟨rd, s, rfl, hrb, hs, hcs⟩ := HSR.out.at_ hkl
              have hcs5 : w5.cell? (rd.add k) = some (.string s) := (HB5.out.cell (by rw [block_of_add]; exact hrb)).trans hcs
              have HS := Lib.hid hs
              have hss := HFR.out.2 s (List.mem_of_getElem? hs)
              have HBE := Lib.hid (begins_any s w5 (by omega))
              obtain ⟨b, hb⟩ : ∃ b, begB s = b := ⟨_, rfl⟩
              have HBB := Lib.hid hb
              rw [hb] at HBE
              clear hs hcs hb
              cases b with
              | true =>
                have HQ2 : Hid (∀ j s, j < k + 1 → r[j]? = some s → begB s = true) := fun j u hj hu => by
                  by_cases e : j = k
                  · subst e
                    have := HS.out
                    rw [hu] at this
                    cases this
                    exact HBB.out
                  · exact HQ.out j u (by omega) hu
                go_wp2_with fail
                refine HBE.out.mono ?_
                rintro e w6 ⟨rfl, hb⟩
                have HB6 : Hid (Below w2.heap.size w2 w6) := HBK.out.trans (hb.mono HBK.out.size)
                clear hb
                go_wp2
                go_roundw
                case rel => exact ⟨k + 1, by omega, by go_num, HQ2, HB6⟩
                case measure => simp [intOf]; omega
              | false =>
                go_wp2_with fail
                refine HBE.out.mono ?_
                rintro e w6 ⟨rfl, hb⟩
                have HB6 : Hid (Below w.heap.size w w6) := HB5.out.trans (hb.mono HB5.out.size)
                clear hb
                go_wp2_with fail
                refine (awake_any _ (HT.out.on HB6.out)).mono ?_
                rintro e wz ⟨rfl, hbz⟩
                go_wp2
                go_ret
                exact ⟨rfl, HB6.out.trans (hbz.mono HB6.out.size)⟩
            · obtain rfl : rn = k := by omega
              have hkz : ¬ (rn : Int) < (rn : Int) := by omega
              have HP2 : Hid (∀ j r, j < i + 1 → L[j]? = some r → ∀ s ∈ r, begB s = true) := fun j q hj hq => by
                by_cases e : j = i
                · subst e
                  have := HR.out
                  rw [hq] at this
                  cases this
                  exact pre_all fun j s hj hs => HQ.out j s (by rw [← HRN.out]; exact hj) hs
                · exact HP.out j q (by omega) hq
              have hi1 : i + 1 ≤ n := HI.out
              go_wp2
              go_roundw
              case rel => exact ⟨i + 1, hi1, by go_num, HP2, HBK⟩
              case measure => have := HI.out; simp [intOf]; omega
        · have hd0 : ¬ (0 : Int) < (t.size : Int) := by omega
          have hd1 : decide ((0 : Int) < (t.size : Int)) = false := decide_eq_false hd0
          have hd2 : decide (0 < t.size) = false := decide_eq_false h0
          go_wp2_with fail
          refine wp_region_quiet_below (by kernel_rfl) (by kernel_rfl) ?_
          repeat (go_big_quiet_step (fail))
          refine wpQuiet_nil ?_
          intro w4 hw'
          have hb4 := bw_below hw'
          have HBR4 : Hid (Below w2.heap.size w2 w4) := HBR.out.trans (hb4.mono HBR.out.size)
          clear hw' hb4 hq
          have hcr4 := HCR.out _ HBR4.out
          go_wp2_with fail
          clear hcr4
          go_loopw [6] (fun v6 wr => ∃ k : Nat, k ≤ rn ∧ v6 = .int .i64 k ∧ Hid (∀ j s, j < k → r[j]? = some s → begB s = true) ∧ Hid (Below w2.heap.size w2 wr)) (fun v6 _ => rn - (intOf v6).toNat)
          case atStart => exact ⟨0, Nat.zero_le _, rfl, fun j r h => by omega, HBR4⟩
          case round =>
            obtain ⟨k, hk, rfl, HQ, HBK⟩ := hrel
            obtain ⟨w5, hw5⟩ : ∃ w5, w5 = wr := ⟨_, rfl⟩
            rw [← hw5] at HBK ⊢
            clear hw5
            have hcr5 := HCR.out _ HBK.out
            have HB5 : Hid (Below w.heap.size w w5) := HB2.out.trans (HBK.out.mono HB2.out.size)
            by_cases hkl : k < rn
            · have hkz : (k : Int) < (rn : Int) := by omega
              have hkA : (0 : Int) ≤ (k : Int) := by omega
              obtain ⟨rd, s, rfl, hrb, hs, hcs⟩ := HSR.out.at_ hkl
              have hcs5 : w5.cell? (rd.add k) = some (.string s) := (HB5.out.cell (by rw [block_of_add]; exact hrb)).trans hcs
              have HS := Lib.hid hs
              have hss := HFR.out.2 s (List.mem_of_getElem? hs)
              have HBE := Lib.hid (begins_any s w5 (by omega))
              obtain ⟨b, hb⟩ : ∃ b, begB s = b := ⟨_, rfl⟩
              have HBB := Lib.hid hb
              rw [hb] at HBE
              clear hs hcs hb
              cases b with
              | true =>
                have HQ2 : Hid (∀ j s, j < k + 1 → r[j]? = some s → begB s = true) := fun j u hj hu => by
                  by_cases e : j = k
                  · subst e
                    have := HS.out
                    rw [hu] at this
                    cases this
                    exact HBB.out
                  · exact HQ.out j u (by omega) hu
                go_wp2_with fail
                refine HBE.out.mono ?_
                rintro e w6 ⟨rfl, hb⟩
                have HB6 : Hid (Below w2.heap.size w2 w6) := HBK.out.trans (hb.mono HBK.out.size)
                clear hb
                go_wp2
                go_roundw
                case rel => exact ⟨k + 1, by omega, by go_num, HQ2, HB6⟩
                case measure => simp [intOf]; omega
              | false =>
                go_wp2_with fail
                refine HBE.out.mono ?_
                rintro e w6 ⟨rfl, hb⟩
                have HB6 : Hid (Below w.heap.size w w6) := HB5.out.trans (hb.mono HB5.out.size)
                clear hb
                go_wp2_with fail
                refine (awake_any _ (HT.out.on HB6.out)).mono ?_
                rintro e wz ⟨rfl, hbz⟩
                go_wp2
                go_ret
                exact ⟨rfl, HB6.out.trans (hbz.mono HB6.out.size)⟩
            · obtain rfl : rn = k := by omega
              have hkz : ¬ (rn : Int) < (rn : Int) := by omega
              have HP2 : Hid (∀ j r, j < i + 1 → L[j]? = some r → ∀ s ∈ r, begB s = true) := fun j q hj hq => by
                by_cases e : j = i
                · subst e
                  have := HR.out
                  rw [hq] at this
                  cases this
                  exact pre_all fun j s hj hs => HQ.out j s (by rw [← HRN.out]; exact hj) hs
                · exact HP.out j q (by omega) hq
              have hi1 : i + 1 ≤ n := HI.out
              go_wp2
              go_roundw
              case rel => exact ⟨i + 1, hi1, by go_num, HP2, HBK⟩
              case measure => have := HI.out; simp [intOf]; omega
      · obtain rfl : n = i := by omega
        have hiz : ¬ (n : Int) < (n : Int) := by omega
        have HBG : Hid (∀ r ∈ L, ∀ s ∈ r, begB s = true) := pre_all fun j r hj hr => HP.out j r (by rw [← HLN.out]; exact hj) hr
        clear HP
        go_wp2_with fail
        go_loopw [7] (fun v7 wr => ∃ i : Nat, i ≤ n ∧ v7 = .int .i64 i ∧ Hid (Below w2.heap.size w2 wr)) (fun v7 _ => n - (intOf v7).toNat)
        case atStart => exact ⟨0, Nat.zero_le _, rfl, HBR⟩
        case round =>
          obtain ⟨i, hi, rfl, HBS⟩ := hrel
          obtain ⟨w4, hw4⟩ : ∃ w4, w4 = wr := ⟨_, rfl⟩
          rw [← hw4] at HBS ⊢
          clear hw4
          have HB4 : Hid (Below w.heap.size w w4) := HB2.out.trans (HBS.out.mono HB2.out.size)
          by_cases hlt : i < n
          · have hiz : (i : Int) < (n : Int) := by omega
            have hiA : (0 : Int) ≤ (i : Int) := by omega
            obtain ⟨ad, r, RA, rn, rc, rfl, hadb, hr, hcr, hsr, hc1, hc2⟩ := HL.out.at_ hlt
            have HCR : Hid (∀ W, Below w2.heap.size w2 W → W.cell? (ad.add i) = some (.slice RA rn rc)) := fun W hW => ((HB2.out.trans (hW.mono HB2.out.size)).cell (by rw [block_of_add]; exact hadb)).trans hcr
            obtain ⟨ld, t, rfl, hlb, ht, hct⟩ := HS1.out.at_ hlt
            obtain rfl : t = lineL (cols L) r := by
              unfold alignL at ht
              rw [List.getElem?_map, hr] at ht
              simpa using ht.symm
            have hq : w4.cell? (ld.add i) = some (.string (lineL (cols L) r)) := (HBS.out.cell (by rw [block_of_add]; exact hlb)).trans hct
            have hrL := List.mem_of_getElem? hr
            have HST : Hid (∀ k, k < nmax L → _) := fun k hk => straight_row HFE.out hrL (HBG.out r hrL) hk
            have HRN := Lib.hid hsr.len
            have HSR := Lib.hid hsr
            have HI := Lib.hid hlt
            have HFR : Hid (FewR r) := HFE.out.2 r hrL
            have hrn : rn ≤ 12 := by have := HFR.out.1; rw [HRN.out] at this; exact this
            have hls := lineL_small HFE.out hrL
            have hps := padB_size (lineL (cols L) r) 4000
            have HPD := Lib.hid (pad_any (lineL (cols L) r) 4000 w4 (by omega) (HT.out.on HB4.out))
            have HCL := Lib.hid fun W => refClusters_any (padB (lineL (cols L) r) 4000) W (by omega)
            clear hr hcr hsr ht hct hrL
            go_wp2_with fail
            refine HPD.out.mono ?_
            rintro e w5 ⟨rfl, hb⟩
            have HBS5 : Hid (Below w2.heap.size w2 w5) := HBS.out.trans (hb.mono HBS.out.size)
            clear hb hq
            go_wp2_with fail
            refine (HCL.out _).mono ?_
            rintro e w6 ⟨v, rfl, hown, hb⟩
            obtain ⟨CA, cc, rfl, _, _, hs6⟩ := own_form hown
            obtain ⟨AL, hAL⟩ : ∃ AL, clusB (padB (lineL (cols L) r) 4000).data.toList = AL := ⟨_, rfl⟩
            have HSA : Hid (SR w6 w6.heap.size CA (clusB (padB (lineL (cols L) r) 4000).data.toList).length (clusB (padB (lineL (cols L) r) 4000).data.toList)) := hs6
            have HUS : Hid (∀ u ∈ clusB (padB (lineL (cols L) r) 4000).data.toList, u.size ≤ 100000000) := fun u hu => by
              have h1 := clusB_size hu
              rw [← Lib.size_eq] at h1
              omega
            rw [hAL] at HSA HST HUS ⊢
            obtain ⟨na, hna⟩ : ∃ na, AL.length = na := ⟨_, rfl⟩
            rw [hna] at HSA HST ⊢
            have HNA := Lib.hid hna
            have HBS6 : Hid (Below w2.heap.size w2 w6) := HBS5.out.trans (hb.mono HBS5.out.size)
            clear hown hb hs6 hAL hna hls hps
            go_wp2_with fail
            go_loopw [10, 11] (fun v10 v11 wr => ∃ k : Nat, k ≤ N ∧ v11 = .int .i64 k ∧ v10 = .int .i64 (fromK (cols L) k) ∧ Hid (Below w6.heap.size w6 wr)) (fun _ v11 _ => N - (intOf v11).toNat)
            case atStart => exact ⟨0, Nat.zero_le _, rfl, rfl, Below.refl _ _⟩
            case round =>
              obtain ⟨k, hk, rfl, rfl, HBK⟩ := hrel
              obtain ⟨w7, hw7⟩ : ∃ w7, w7 = wr := ⟨_, rfl⟩
              rw [← hw7] at HBK ⊢
              clear hw7
              have HBS7 : Hid (Below w2.heap.size w2 w7) := HBS6.out.trans (HBK.out.mono HBS6.out.size)
              have HB7 : Hid (Below w.heap.size w w7) := HB2.out.trans (HBS7.out.mono HB2.out.size)
              have hfk := fromK_le HC3.out k
              by_cases hkl : k < N
              · have hkz : (k : Int) < (N : Int) := by omega
                have hkA : (0 : Int) ≤ (k : Int) := by omega
                obtain ⟨cd, x, rfl, hcb, hx, hcx⟩ := HS2.out.at_ hkl
                obtain rfl : x = (colAt L k : Int) := by
                  rw [cols_at (by rw [HNN.out]; exact hkl)] at hx
                  exact (Option.some.inj hx).symm
                have HCX : Hid (∀ W, Below w2.heap.size w2 W → W.cell? (cd.add k) = some (.int .i64 (colAt L k : Int))) := fun W hW => (hW.cell (by rw [block_of_add]; exact hcb)).trans hcx
                have hcx7 := HCX.out _ HBS7.out
                have hcr7 := HCR.out _ HBS7.out
                obtain ⟨hst1, hst2⟩ := HST.out k (by rw [HNN.out]; exact hkl)
                have hck := few_colE HFE.out k
                have HFN : Hid (fromK (cols L) k + (colAt L k : Int) + 1 = fromK (cols L) (k + 1)) := by
                  show _ = fromK (cols L) k + (cols L).getD k 0 + 1
                  rw [cols_getD]
                obtain ⟨fr, hfr⟩ : ∃ fr : Nat, fromK (cols L) k = (fr : Int) := ⟨(fromK (cols L) k).toNat, by omega⟩
                rw [hfr] at hst1 hst2 HFN hfk ⊢
                rw [Int.toNat_natCast] at hst2
                obtain ⟨ck, hckn⟩ : ∃ ck, colAt L k = ck := ⟨_, rfl⟩
                rw [hckn] at hcx7 HCX hst1 hst2 hck HFN
                have hbnd : fr + ck ≤ na := by omega
                have HST2 := Lib.hid hst2
                have HKL := Lib.hid hkl
                clear hx hcx hst1 hst2 hfr hckn
                by_cases hkr : k < rn
                · have hkz2 : (k : Int) < (rn : Int) := by omega
                  obtain ⟨rd, s, rfl, hrb, hs, hcs⟩ := HSR.out.at_ hkr
                  have hcs7 : w7.cell? (rd.add k) = some (.string s) := (HB7.out.cell (by rw [block_of_add]; exact hrb)).trans hcs
                  have HS : Hid (cellB r k = s) := cellB_some hs
                  have hss := HFR.out.2 s (List.mem_of_getElem? hs)
                  clear hs hcs
                  have HPC := Lib.hid (pad_any s (ck : Int) w7 (by omega) (HT.out.on HB7.out))
                  have hpcs := padB_size s (ck : Int)
                  have HPE : Hid (pad (cellB r k).data.toList (ck : Int) = (padB s (ck : Int)).data.toList) := by
                    show _ = _
                    unfold padB
                    rw [HS.out, strL_data]
                  go_wp2_with fail
                  go_loop [13, 14] (fun v13 v14 => ∃ (q : Nat) (t : ByteArray), q ≤ ck ∧ v14 = .int .i64 ((fr : Int) + (q : Int)) ∧ v13 = .string t ∧ t.size ≤ 100000000 * q ∧ Hid (t.data.toList = catB ((AL.drop fr).take q))) (fun _ v14 => (fr + ck) - (intOf v14).toNat)
                  case atStart => exact ⟨0, ⟨#[]⟩, Nat.zero_le _, by simp, rfl, Nat.zero_le _, rfl⟩
                  case round =>
                    obtain ⟨q, t, hq, rfl, rfl, hts, HTL⟩ := hrel
                    by_cases hql : q < ck
                    · have hj : fr + q < na := by omega
                      have hjz1 : (fr : Int) + (q : Int) < (fr : Int) + (ck : Int) := by omega
                      have hjd1 : decide ((fr : Int) + (q : Int) < (fr : Int) + (ck : Int)) = true := decide_eq_true hjz1
                      have hjz2 : (fr : Int) + (q : Int) < (na : Int) := by omega
                      have hjd2 : decide ((fr : Int) + (q : Int) < (na : Int)) = true := decide_eq_true hjz2
                      have hjA : (0 : Int) ≤ (fr : Int) + (q : Int) := by omega
                      have hjN : ((fr : Int) + (q : Int)).toNat = fr + q := by omega
                      obtain ⟨ald, u, ea, hab, hu, hcu⟩ := HSA.out.at_ hj
                      subst ea
                      have hcu7 : w7.cell? (ald.add (fr + q)) = some (.string u) := (HBK.out.cell (by rw [block_of_add]; exact hab)).trans hcu
                      have hus : u.size ≤ 100000000 := HUS.out u (List.mem_of_getElem? hu)
                      have HT2 : Hid ((t ++ u).data.toList = catB ((AL.drop fr).take (q + 1))) := by
                        show _ = _
                        rw [catB_take (s := u) (by rw [List.getElem?_drop]; exact hu), app_data, HTL.out]
                      have htu : (t ++ u).size = t.size + u.size := by rw [Lib.size_eq, app_data, List.length_append, ← Lib.size_eq, ← Lib.size_eq]
                      have HTU := Lib.hid htu
                      have hcat : t.size + u.size ≤ 9223372036854775807 := by omega
                      clear hu hcu htu
                      go_wp2
                      go_round
                      case rel => exact ⟨q + 1, t ++ u, by omega, by push_cast; first | rfl | exact congrArg (Value.int .i64) (by omega), rfl, by rw [HTU.out]; omega, HT2⟩
                      case measure => simp [intOf]; omega
                    · obtain rfl : ck = q := by omega
                      have hjz1 : ¬ (fr : Int) + (ck : Int) < (fr : Int) + (ck : Int) := by omega
                      have hjd1 : decide ((fr : Int) + (ck : Int) < (fr : Int) + (ck : Int)) = false := decide_eq_false hjz1
                      have hte : t = padB s (ck : Int) := by
                        refine ba_ext ?_
                        rw [HTL.out, HST2.out, HPE.out]
                      subst hte
                      go_wp2_with fail
                      refine HPC.out.mono ?_
                      rintro e w8 ⟨rfl, hb⟩
                      have HBK8 : Hid (Below w6.heap.size w6 w8) := HBK.out.trans (hb.mono HBK.out.size)
                      have hcx8 := HCX.out _ (HBS7.out.trans (hb.mono HBS7.out.size))
                      clear hb
                      have hk1 : k + 1 ≤ N := HKL.out
                      have hbn : ((padB s (ck : Int)).toList != (padB s (ck : Int)).toList) = false := bne_self_eq_false _
                      go_wp2
                      go_roundw
                      case rel => exact ⟨k + 1, hk1, by go_num, by rw [← HFN.out], HBK8⟩
                      case measure => have := HKL.out; simp [intOf]; omega
                · have hkz2 : ¬ (k : Int) < (rn : Int) := by omega
                  have HS : Hid (cellB r k = ⟨#[]⟩) := cellB_none (by rw [HRN.out]; omega)
                  have hss : (⟨#[]⟩ : ByteArray).size ≤ 60 := Nat.zero_le _
                  have HPC := Lib.hid (pad_any ⟨#[]⟩ (ck : Int) w7 (by omega) (HT.out.on HB7.out))
                  have hpcs := padB_size ⟨#[]⟩ (ck : Int)
                  have HPE : Hid (pad (cellB r k).data.toList (ck : Int) = (padB ⟨#[]⟩ (ck : Int)).data.toList) := by
                    show _ = _
                    unfold padB
                    rw [HS.out, strL_data]
                  go_wp2_with fail
                  go_loop [13, 14] (fun v13 v14 => ∃ (q : Nat) (t : ByteArray), q ≤ ck ∧ v14 = .int .i64 ((fr : Int) + (q : Int)) ∧ v13 = .string t ∧ t.size ≤ 100000000 * q ∧ Hid (t.data.toList = catB ((AL.drop fr).take q))) (fun _ v14 => (fr + ck) - (intOf v14).toNat)
                  case atStart => exact ⟨0, ⟨#[]⟩, Nat.zero_le _, by simp, rfl, Nat.zero_le _, rfl⟩
                  case round =>
                    obtain ⟨q, t, hq, rfl, rfl, hts, HTL⟩ := hrel
                    by_cases hql : q < ck
                    · have hj : fr + q < na := by omega
                      have hjz1 : (fr : Int) + (q : Int) < (fr : Int) + (ck : Int) := by omega
                      have hjd1 : decide ((fr : Int) + (q : Int) < (fr : Int) + (ck : Int)) = true := decide_eq_true hjz1
                      have hjz2 : (fr : Int) + (q : Int) < (na : Int) := by omega
                      have hjd2 : decide ((fr : Int) + (q : Int) < (na : Int)) = true := decide_eq_true hjz2
                      have hjA : (0 : Int) ≤ (fr : Int) + (q : Int) := by omega
                      have hjN : ((fr : Int) + (q : Int)).toNat = fr + q := by omega
                      obtain ⟨ald, u, ea, hab, hu, hcu⟩ := HSA.out.at_ hj
                      subst ea
                      have hcu7 : w7.cell? (ald.add (fr + q)) = some (.string u) := (HBK.out.cell (by rw [block_of_add]; exact hab)).trans hcu
                      have hus : u.size ≤ 100000000 := HUS.out u (List.mem_of_getElem? hu)
                      have HT2 : Hid ((t ++ u).data.toList = catB ((AL.drop fr).take (q + 1))) := by
                        show _ = _
                        rw [catB_take (s := u) (by rw [List.getElem?_drop]; exact hu), app_data, HTL.out]
                      have htu : (t ++ u).size = t.size + u.size := by rw [Lib.size_eq, app_data, List.length_append, ← Lib.size_eq, ← Lib.size_eq]
                      have HTU := Lib.hid htu
                      have hcat : t.size + u.size ≤ 9223372036854775807 := by omega
                      clear hu hcu htu
                      go_wp2
                      go_round
                      case rel => exact ⟨q + 1, t ++ u, by omega, by push_cast; first | rfl | exact congrArg (Value.int .i64) (by omega), rfl, by rw [HTU.out]; omega, HT2⟩
                      case measure => simp [intOf]; omega
                    · obtain rfl : ck = q := by omega
                      have hjz1 : ¬ (fr : Int) + (ck : Int) < (fr : Int) + (ck : Int) := by omega
                      have hjd1 : decide ((fr : Int) + (ck : Int) < (fr : Int) + (ck : Int)) = false := decide_eq_false hjz1
                      have hte : t = padB ⟨#[]⟩ (ck : Int) := by
                        refine ba_ext ?_
                        rw [HTL.out, HST2.out, HPE.out]
                      subst hte
                      go_wp2_with fail
                      refine HPC.out.mono ?_
                      rintro e w8 ⟨rfl, hb⟩
                      have HBK8 : Hid (Below w6.heap.size w6 w8) := HBK.out.trans (hb.mono HBK.out.size)
                      have hcx8 := HCX.out _ (HBS7.out.trans (hb.mono HBS7.out.size))
                      clear hb
                      have hk1 : k + 1 ≤ N := HKL.out
                      have hbn : ((padB ⟨#[]⟩ (ck : Int)).toList != (padB ⟨#[]⟩ (ck : Int)).toList) = false := bne_self_eq_false _
                      go_wp2
                      go_roundw
                      case rel => exact ⟨k + 1, hk1, by go_num, by rw [← HFN.out], HBK8⟩
                      case measure => have := HKL.out; simp [intOf]; omega
              · obtain rfl : N = k := by omega
                have hkz : ¬ (N : Int) < (N : Int) := by omega
                have hi1 : i + 1 ≤ n := HI.out
                go_wp2
                go_roundw
                case rel => exact ⟨i + 1, hi1, by go_num, HBS7⟩
                case measure => have := HI.out; simp [intOf]; omega
          · obtain rfl : n = i := by omega
            have hiz : ¬ (n : Int) < (n : Int) := by omega
            go_wp2_with fail
            refine (awake_any _ (HT.out.on HB4.out)).mono ?_
            rintro e wz ⟨rfl, hbz⟩
            go_wp2
            go_ret
            exact ⟨rfl, HB4.out.trans (hbz.mono HB4.out.size)⟩
  · have HF := Lib.hid (few_no (c := c) HL.out hn hf)
    clear hf
    go_enter Tryd.func10, Tryd.ntmps10
    go_wp2_with fail
    refine HF.out.mono ?_
    rintro e w0 ⟨rfl, rfl⟩
    go_wp2_with fail
    refine (awake_any _ HT.out).mono ?_
    rintro e wz ⟨rfl, hbz⟩
    go_wp2
    go_ret
    exact ⟨rfl, hbz⟩
end Go.Proofs.YtacfeabdeaikhaaDoor
