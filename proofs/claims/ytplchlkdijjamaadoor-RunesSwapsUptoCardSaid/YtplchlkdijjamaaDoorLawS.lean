/-
  RunesSwaps, walked: it returns true, and nothing that was there has changed.
-/
import Derived.Test.YtplchlkdijjamaaDoorLawC
namespace Go.Proofs.YtplchlkdijjamaaDoor
open Go.RowKit Ru
set_option linter.unusedVariables false
set_option linter.unusedSimpArgs false

theorem mark_nat {a : Int} (h : markB a = true) : ∃ m : Nat, a = (m : Int) ∧ mk m = true := by
  have h1 := h
  unfold markB at h1
  rw [Bool.and_eq_true, decide_eq_true_eq, decide_eq_true_eq] at h1
  refine ⟨a.toNat, by omega, ?_⟩
  unfold mk
  rw [show ((a.toNat : Nat) : Int) = a by omega]
  exact h
theorem ofI_marks {m k : Nat} (hm : mk m = true) (hk : mk k = true) : ofV (ofI [(m : Int), (k : Int)]) = .tuple #[.string (strL (Ru.encS [m, k])), .bool true] := by
  have hs : Sc [m, k] := fun p hp => by
    simp at hp
    rcases hp with rfl | rfl
    · exact mk_scalar hm
    · exact mk_scalar hk
  rw [show ([(m : Int), (k : Int)] : List Int) = [m, k].map (fun (p : Nat) => (p : Int)) from rfl, ofI_nat hs]
  rfl
theorem sc_marks {d : List Nat} {m k : Nat} (hd : Sc d) (hm : mk m = true) (hk : mk k = true) : Sc (d ++ [m, k]) := hd.app fun p hp => by
  simp at hp
  rcases hp with rfl | rfl
  · exact mk_scalar hm
  · exact mk_scalar hk
theorem order_marks {s : ByteArray} {d : List Nat} {m k : Nat} (h : points s.data.toList = some d) (hm : mk m = true) (hk : mk k = true) : order (s ++ strL (Ru.encS [m, k])).data.toList = Ru.encS (ords (d ++ [m, k])) := by
  rw [app_data, strL_data]
  refine order_some ?_
  have h1 := points_encS (sc_marks (points_sc h) hm hk)
  rw [encS_app, encS_points h] at h1
  exact h1
theorem swaps_dec {s : ByteArray} {d : List Nat} {m k : Nat} (h : points s.data.toList = some d) (hm : mk m = true) (hk : mk k = true) :
    decide (order (s ++ strL (Ru.encS [m, k])).data.toList = order (s ++ strL (Ru.encS [k, m])).data.toList) = decide (m = k ∨ cls m ≠ cls k) := by
  rw [order_marks h hm hk, order_marks h hk hm]
  refine decide_eq_decide.2 ?_
  rw [← swaps d hm hk]
  constructor
  · intro he
    exact encS_inj ((sc_marks (points_sc h) hm hk).perm (ords_perm _)) ((sc_marks (points_sc h) hk hm).perm (ords_perm _)) he
  · intro he
    rw [he]
theorem encS_two_len (m k : Nat) : (strL (Ru.encS [m, k])).size ≤ 8 := by
  rw [strL_size]
  exact encS_le [m, k]
set_option maxHeartbeats 4000000 in
set_option maxRecDepth 100000 in
theorem swaps_law (s : ByteArray) (a b : Int) (w : World) (hs : s.size ≤ 1099511627776) (hT : Tabs w) :
    Calls Tryd.prog 11 #[.string s, .int .i64 a, .int .i64 b] w fun e w' => e = .returned (.bool true) ∧ Below w.heap.size w w' := by
  have HT := Lib.hid hT
  clear hT
  have HP := Lib.hid (points_any s w hs HT.out)
  obtain ⟨o, ho⟩ : ∃ o, points s.data.toList = o := ⟨_, rfl⟩
  have HO := Lib.hid ho
  rw [ho] at HP
  clear ho
  obtain ⟨ok, hok⟩ : ∃ b, o.isSome = b := ⟨_, rfl⟩
  have HOK := Lib.hid hok
  clear hok
  obtain ⟨x, xk, hx⟩ := ofV_form (ofI [a, b])
  obtain ⟨y, yk, hy⟩ := ofV_form (ofI [b, a])
  have HX := Lib.hid hx
  have HY := Lib.hid hy
  clear hx hy
  obtain ⟨ma, hma⟩ : ∃ m, markB a = m := ⟨_, rfl⟩
  obtain ⟨mb, hmb⟩ : ∃ m, markB b = m := ⟨_, rfl⟩
  have HMA := Lib.hid fun W => refMark_any a W
  have HMB := Lib.hid fun W => refMark_any b W
  rw [hma] at HMA
  rw [hmb] at HMB
  have HA := Lib.hid hma
  have HB := Lib.hid hmb
  clear hma hmb
  by_cases hsz : s.size ≤ 1000
  · have hd : ¬ (1000 : Int) < (s.size : Int) := by omega
    cases ok with
    | false =>
      go_enter Tryd.func11, Tryd.ntmps11
      go_wp2_with fail
      refine HP.out.mono ?_
      intro e w1 hpp
      obtain ⟨A1, n1, c1, rfl, _, _, hb⟩ := hpp.val
      rw [HOK.out]
      have HB1 : Hid (Below w.heap.size w w1) := hb
      clear hpp hb
      go_wp2_with fail
      refine (of_new w1 (w1.alloc (.cells #[.int .i64 a, .int .i64 b] 3)) #[.int .i64 a, .int .i64 b] [a, b] 3 rfl rfl ⟨rfl, by simp⟩ HX.out).mono ?_
      rintro e w2 ⟨rfl, hb⟩
      have HB2 : Hid (Below w.heap.size w w2) := HB1.out.trans (hb.mono HB1.out.size)
      clear hb
      go_wp2_with fail
      refine (of_new w2 (w2.alloc (.cells #[.int .i64 b, .int .i64 a] 3)) #[.int .i64 b, .int .i64 a] [b, a] 3 rfl rfl ⟨rfl, by simp⟩ HY.out).mono ?_
      rintro e w3 ⟨rfl, hb⟩
      have HB3 : Hid (Below w.heap.size w w3) := HB2.out.trans (hb.mono HB2.out.size)
      clear hb
      go_wp2_with fail
      refine (awake_any _ (HT.out.on HB3.out)).mono ?_
      rintro e wz ⟨rfl, hbz⟩
      go_wp2
      go_ret
      exact ⟨rfl, HB3.out.trans (hbz.mono HB3.out.size)⟩
    | true =>
      cases xk with
      | false =>
        go_enter Tryd.func11, Tryd.ntmps11
        go_wp2_with fail
        refine HP.out.mono ?_
        intro e w1 hpp
        obtain ⟨A1, n1, c1, rfl, _, _, hb⟩ := hpp.val
        rw [HOK.out]
        have HB1 : Hid (Below w.heap.size w w1) := hb
        clear hpp hb
        go_wp2_with fail
        refine (of_new w1 (w1.alloc (.cells #[.int .i64 a, .int .i64 b] 3)) #[.int .i64 a, .int .i64 b] [a, b] 3 rfl rfl ⟨rfl, by simp⟩ HX.out).mono ?_
        rintro e w2 ⟨rfl, hb⟩
        have HB2 : Hid (Below w.heap.size w w2) := HB1.out.trans (hb.mono HB1.out.size)
        clear hb
        go_wp2_with fail
        refine (of_new w2 (w2.alloc (.cells #[.int .i64 b, .int .i64 a] 3)) #[.int .i64 b, .int .i64 a] [b, a] 3 rfl rfl ⟨rfl, by simp⟩ HY.out).mono ?_
        rintro e w3 ⟨rfl, hb⟩
        have HB3 : Hid (Below w.heap.size w w3) := HB2.out.trans (hb.mono HB2.out.size)
        clear hb
        go_wp2_with fail
        refine (awake_any _ (HT.out.on HB3.out)).mono ?_
        rintro e wz ⟨rfl, hbz⟩
        go_wp2
        go_ret
        exact ⟨rfl, HB3.out.trans (hbz.mono HB3.out.size)⟩
      | true =>
        cases ma with
        | false =>
          go_enter Tryd.func11, Tryd.ntmps11
          go_wp2_with fail
          refine HP.out.mono ?_
          intro e w1 hpp
          obtain ⟨A1, n1, c1, rfl, _, _, hb⟩ := hpp.val
          rw [HOK.out]
          have HB1 : Hid (Below w.heap.size w w1) := hb
          clear hpp hb
          go_wp2_with fail
          refine (of_new w1 (w1.alloc (.cells #[.int .i64 a, .int .i64 b] 3)) #[.int .i64 a, .int .i64 b] [a, b] 3 rfl rfl ⟨rfl, by simp⟩ HX.out).mono ?_
          rintro e w2 ⟨rfl, hb⟩
          have HB2 : Hid (Below w.heap.size w w2) := HB1.out.trans (hb.mono HB1.out.size)
          clear hb
          go_wp2_with fail
          refine (of_new w2 (w2.alloc (.cells #[.int .i64 b, .int .i64 a] 3)) #[.int .i64 b, .int .i64 a] [b, a] 3 rfl rfl ⟨rfl, by simp⟩ HY.out).mono ?_
          rintro e w3 ⟨rfl, hb⟩
          have HB3 : Hid (Below w.heap.size w w3) := HB2.out.trans (hb.mono HB2.out.size)
          clear hb
          go_wp2_with fail
          refine (HMA.out _).mono ?_
          rintro e w4 ⟨rfl, rfl⟩
          go_wp2_with fail
          refine (awake_any _ (HT.out.on HB3.out)).mono ?_
          rintro e wz ⟨rfl, hbz⟩
          go_wp2
          go_ret
          exact ⟨rfl, HB3.out.trans (hbz.mono HB3.out.size)⟩
        | true =>
          cases mb with
          | false =>
            go_enter Tryd.func11, Tryd.ntmps11
            go_wp2_with fail
            refine HP.out.mono ?_
            intro e w1 hpp
            obtain ⟨A1, n1, c1, rfl, _, _, hb⟩ := hpp.val
            rw [HOK.out]
            have HB1 : Hid (Below w.heap.size w w1) := hb
            clear hpp hb
            go_wp2_with fail
            refine (of_new w1 (w1.alloc (.cells #[.int .i64 a, .int .i64 b] 3)) #[.int .i64 a, .int .i64 b] [a, b] 3 rfl rfl ⟨rfl, by simp⟩ HX.out).mono ?_
            rintro e w2 ⟨rfl, hb⟩
            have HB2 : Hid (Below w.heap.size w w2) := HB1.out.trans (hb.mono HB1.out.size)
            clear hb
            go_wp2_with fail
            refine (of_new w2 (w2.alloc (.cells #[.int .i64 b, .int .i64 a] 3)) #[.int .i64 b, .int .i64 a] [b, a] 3 rfl rfl ⟨rfl, by simp⟩ HY.out).mono ?_
            rintro e w3 ⟨rfl, hb⟩
            have HB3 : Hid (Below w.heap.size w w3) := HB2.out.trans (hb.mono HB2.out.size)
            clear hb
            go_wp2_with fail
            refine (HMA.out _).mono ?_
            rintro e w4 ⟨rfl, rfl⟩
            go_wp2_with fail
            refine (HMB.out _).mono ?_
            rintro e w4 ⟨rfl, rfl⟩
            go_wp2_with fail
            refine (awake_any _ (HT.out.on HB3.out)).mono ?_
            rintro e wz ⟨rfl, hbz⟩
            go_wp2
            go_ret
            exact ⟨rfl, HB3.out.trans (hbz.mono HB3.out.size)⟩
          | true =>
            obtain ⟨m, rfl, hm⟩ := mark_nat HA.out
            obtain ⟨k, rfl, hk⟩ := mark_nat HB.out
            have hxe := HX.out
            rw [ofI_marks hm hk] at hxe
            obtain rfl : x = strL (Ru.encS [m, k]) := by injection hxe with h1; injection h1 with h1; simp at h1; exact h1.symm
            have hye := HY.out
            rw [ofI_marks hk hm] at hye
            obtain ⟨rfl, rfl⟩ : y = strL (Ru.encS [k, m]) ∧ yk = true := by injection hye with h1; injection h1 with h1; simp at h1; first | exact ⟨h1.1.symm, h1.2⟩ | exact ⟨h1.1.symm, h1.2.symm⟩
            obtain ⟨d, hd2⟩ : ∃ d, points s.data.toList = some d := by
              have h1 := HOK.out
              have h2 := HO.out
              cases o with
              | none => cases h1
              | some d => exact ⟨d, h2⟩
            have l1 := encS_two_len m k
            have l2 := encS_two_len k m
            have z1 : (s ++ strL (Ru.encS [m, k])).size ≤ 1099511627 := by rw [Lib.size_eq, app_data, List.length_append, ← Lib.size_eq, ← Lib.size_eq]; omega
            have z2 : (s ++ strL (Ru.encS [k, m])).size ≤ 1099511627 := by rw [Lib.size_eq, app_data, List.length_append, ← Lib.size_eq, ← Lib.size_eq]; omega
            have HSM := Lib.hid fun W (hb : Below w.heap.size w W) => sameO_any (s ++ strL (Ru.encS [m, k])) (s ++ strL (Ru.encS [k, m])) W z1 z2 (HT.out.on hb)
            rw [swaps_dec hd2 hm hk] at HSM
            have HCA := Lib.hid fun W => class_any (m : Int) W
            have HCB := Lib.hid fun W => class_any (k : Int) W
            have ec : cls m = classI (m : Int) := rfl
            have ek : cls k = classI (k : Int) := rfl
            obtain ⟨xx, hxx⟩ : ∃ xx, strL (Ru.encS [m, k]) = xx := ⟨_, rfl⟩
            obtain ⟨yy, hyy⟩ : ∃ yy, strL (Ru.encS [k, m]) = yy := ⟨_, rfl⟩
            rw [hxx] at HX l1
            rw [hyy] at HY l2
            rw [hxx, hyy] at HSM
            have cat1 : s.size + xx.size ≤ 9223372036854775807 := by omega
            have cat2 : s.size + yy.size ≤ 9223372036854775807 := by omega
            rw [ec, ek] at HSM
            obtain ⟨ca, hca⟩ : ∃ c, classI (m : Int) = c := ⟨_, rfl⟩
            obtain ⟨cb, hcb⟩ : ∃ c, classI (k : Int) = c := ⟨_, rfl⟩
            rw [hca] at HSM HCA
            rw [hcb] at HSM HCB
            have HKA := Lib.hid hca
            have HKB := Lib.hid hcb
            clear hxe hye hd2 z1 z2 ec ek hxx hyy hca hcb hm hk
            by_cases hab : m = k
            · have heq : ((m : Int) == (k : Int)) = true := beq_iff_eq.2 (by omega)
              rw [decide_eq_true (.inl hab)] at HSM
              have HAB := Lib.hid hab
              clear hab
              go_enter Tryd.func11, Tryd.ntmps11
              go_wp2_with fail
              refine HP.out.mono ?_
              intro e w1 hpp
              obtain ⟨A1, n1, c1, rfl, _, _, hb⟩ := hpp.val
              rw [HOK.out]
              have HB1 : Hid (Below w.heap.size w w1) := hb
              clear hpp hb
              go_wp2_with fail
              refine (of_new w1 (w1.alloc (.cells #[.int .i64 (m : Int), .int .i64 (k : Int)] 3)) #[.int .i64 (m : Int), .int .i64 (k : Int)] [(m : Int), (k : Int)] 3 rfl rfl ⟨rfl, by simp⟩ HX.out).mono ?_
              rintro e w2 ⟨rfl, hb⟩
              have HB2 : Hid (Below w.heap.size w w2) := HB1.out.trans (hb.mono HB1.out.size)
              clear hb
              go_wp2_with fail
              refine (of_new w2 (w2.alloc (.cells #[.int .i64 (k : Int), .int .i64 (m : Int)] 3)) #[.int .i64 (k : Int), .int .i64 (m : Int)] [(k : Int), (m : Int)] 3 rfl rfl ⟨rfl, by simp⟩ HY.out).mono ?_
              rintro e w3 ⟨rfl, hb⟩
              have HB3 : Hid (Below w.heap.size w w3) := HB2.out.trans (hb.mono HB2.out.size)
              clear hb
              go_wp2_with fail
              refine (HMA.out _).mono ?_
              rintro e w4 ⟨rfl, rfl⟩
              go_wp2_with fail
              refine (HMB.out _).mono ?_
              rintro e w4 ⟨rfl, rfl⟩
              go_wp2_with fail
              refine (HSM.out _ HB3.out).mono ?_
              rintro e w5 ⟨rfl, hb⟩
              have HB5 : Hid (Below w.heap.size w w5) := HB3.out.trans (hb.mono HB3.out.size)
              clear hb
              go_wp2_with fail
              refine (awake_any _ (HT.out.on HB5.out)).mono ?_
              rintro e wz ⟨rfl, hbz⟩
              go_wp2
              go_ret
              exact ⟨rfl, HB5.out.trans (hbz.mono HB5.out.size)⟩
            · have heq : ((m : Int) == (k : Int)) = false := beq_eq_false_iff_ne.2 (by omega)
              have hne : ¬ (m : Int) = (k : Int) := by omega
              by_cases hcc : ca = cb
              · have hn : ¬ (m = k ∨ ca ≠ cb) := by rintro (h | h); exact hab h; exact h hcc
                rw [decide_eq_false hn] at HSM
                have hce : (ca != cb) = false := by rw [hcc]; exact bne_self_eq_false _
                have hce2 : (ca == cb) = true := by rw [hcc]; exact beq_self_eq_true _
                have HCC := Lib.hid hcc
                clear hn hab hcc
                go_enter Tryd.func11, Tryd.ntmps11
                go_wp2_with fail
                refine HP.out.mono ?_
                intro e w1 hpp
                obtain ⟨A1, n1, c1, rfl, _, _, hb⟩ := hpp.val
                rw [HOK.out]
                have HB1 : Hid (Below w.heap.size w w1) := hb
                clear hpp hb
                go_wp2_with fail
                refine (of_new w1 (w1.alloc (.cells #[.int .i64 (m : Int), .int .i64 (k : Int)] 3)) #[.int .i64 (m : Int), .int .i64 (k : Int)] [(m : Int), (k : Int)] 3 rfl rfl ⟨rfl, by simp⟩ HX.out).mono ?_
                rintro e w2 ⟨rfl, hb⟩
                have HB2 : Hid (Below w.heap.size w w2) := HB1.out.trans (hb.mono HB1.out.size)
                clear hb
                go_wp2_with fail
                refine (of_new w2 (w2.alloc (.cells #[.int .i64 (k : Int), .int .i64 (m : Int)] 3)) #[.int .i64 (k : Int), .int .i64 (m : Int)] [(k : Int), (m : Int)] 3 rfl rfl ⟨rfl, by simp⟩ HY.out).mono ?_
                rintro e w3 ⟨rfl, hb⟩
                have HB3 : Hid (Below w.heap.size w w3) := HB2.out.trans (hb.mono HB2.out.size)
                clear hb
                go_wp2_with fail
                refine (HMA.out _).mono ?_
                rintro e w4 ⟨rfl, rfl⟩
                go_wp2_with fail
                refine (HMB.out _).mono ?_
                rintro e w4 ⟨rfl, rfl⟩
                go_wp2_with fail
                refine (HSM.out _ HB3.out).mono ?_
                rintro e w5 ⟨rfl, hb⟩
                have HB5 : Hid (Below w.heap.size w w5) := HB3.out.trans (hb.mono HB3.out.size)
                clear hb
                go_wp2_with fail
                refine (HCA.out _).mono ?_
                rintro e w6 ⟨rfl, rfl⟩
                go_wp2_with fail
                refine (HCB.out _).mono ?_
                rintro e w6 ⟨rfl, rfl⟩
                go_wp2_with fail
                refine (awake_any _ (HT.out.on HB5.out)).mono ?_
                rintro e wz ⟨rfl, hbz⟩
                go_wp2
                go_ret
                exact ⟨rfl, HB5.out.trans (hbz.mono HB5.out.size)⟩
              · rw [decide_eq_true (.inr hcc)] at HSM
                have hce : (ca != cb) = true := bne_iff_ne.2 hcc
                have hce2 : (ca == cb) = false := beq_eq_false_iff_ne.2 hcc
                clear hab
                go_enter Tryd.func11, Tryd.ntmps11
                go_wp2_with fail
                refine HP.out.mono ?_
                intro e w1 hpp
                obtain ⟨A1, n1, c1, rfl, _, _, hb⟩ := hpp.val
                rw [HOK.out]
                have HB1 : Hid (Below w.heap.size w w1) := hb
                clear hpp hb
                go_wp2_with fail
                refine (of_new w1 (w1.alloc (.cells #[.int .i64 (m : Int), .int .i64 (k : Int)] 3)) #[.int .i64 (m : Int), .int .i64 (k : Int)] [(m : Int), (k : Int)] 3 rfl rfl ⟨rfl, by simp⟩ HX.out).mono ?_
                rintro e w2 ⟨rfl, hb⟩
                have HB2 : Hid (Below w.heap.size w w2) := HB1.out.trans (hb.mono HB1.out.size)
                clear hb
                go_wp2_with fail
                refine (of_new w2 (w2.alloc (.cells #[.int .i64 (k : Int), .int .i64 (m : Int)] 3)) #[.int .i64 (k : Int), .int .i64 (m : Int)] [(k : Int), (m : Int)] 3 rfl rfl ⟨rfl, by simp⟩ HY.out).mono ?_
                rintro e w3 ⟨rfl, hb⟩
                have HB3 : Hid (Below w.heap.size w w3) := HB2.out.trans (hb.mono HB2.out.size)
                clear hb
                go_wp2_with fail
                refine (HMA.out _).mono ?_
                rintro e w4 ⟨rfl, rfl⟩
                go_wp2_with fail
                refine (HMB.out _).mono ?_
                rintro e w4 ⟨rfl, rfl⟩
                go_wp2_with fail
                refine (HSM.out _ HB3.out).mono ?_
                rintro e w5 ⟨rfl, hb⟩
                have HB5 : Hid (Below w.heap.size w w5) := HB3.out.trans (hb.mono HB3.out.size)
                clear hb
                go_wp2_with fail
                refine (HCA.out _).mono ?_
                rintro e w6 ⟨rfl, rfl⟩
                go_wp2_with fail
                refine (HCB.out _).mono ?_
                rintro e w6 ⟨rfl, rfl⟩
                go_wp2_with fail
                refine (awake_any _ (HT.out.on HB5.out)).mono ?_
                rintro e wz ⟨rfl, hbz⟩
                go_wp2
                go_ret
                exact ⟨rfl, HB5.out.trans (hbz.mono HB5.out.size)⟩
  · have hd : (1000 : Int) < (s.size : Int) := by omega
    go_enter Tryd.func11, Tryd.ntmps11
    go_wp2_with fail
    refine HP.out.mono ?_
    intro e w1 hpp
    obtain ⟨A1, n1, c1, rfl, _, _, hb⟩ := hpp.val
    rw [HOK.out]
    have HB1 : Hid (Below w.heap.size w w1) := hb
    clear hpp hb
    go_wp2_with fail
    refine (of_new w1 (w1.alloc (.cells #[.int .i64 a, .int .i64 b] 3)) #[.int .i64 a, .int .i64 b] [a, b] 3 rfl rfl ⟨rfl, by simp⟩ HX.out).mono ?_
    rintro e w2 ⟨rfl, hb⟩
    have HB2 : Hid (Below w.heap.size w w2) := HB1.out.trans (hb.mono HB1.out.size)
    clear hb
    go_wp2_with fail
    refine (of_new w2 (w2.alloc (.cells #[.int .i64 b, .int .i64 a] 3)) #[.int .i64 b, .int .i64 a] [b, a] 3 rfl rfl ⟨rfl, by simp⟩ HY.out).mono ?_
    rintro e w3 ⟨rfl, hb⟩
    have HB3 : Hid (Below w.heap.size w w3) := HB2.out.trans (hb.mono HB2.out.size)
    clear hb
    go_wp2_with fail
    refine (awake_any _ (HT.out.on HB3.out)).mono ?_
    rintro e wz ⟨rfl, hbz⟩
    go_wp2
    go_ret
    exact ⟨rfl, HB3.out.trans (hbz.mono HB3.out.size)⟩
end Go.Proofs.YtplchlkdijjamaaDoor
