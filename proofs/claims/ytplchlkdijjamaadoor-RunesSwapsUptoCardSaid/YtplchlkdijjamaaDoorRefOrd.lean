import Derived.Test.YtplchlkdijjamaaDoorRefOf
import Derived.IntWalk
namespace Go.Proofs.YtplchlkdijjamaaDoor
open Go.RowKit Ru
set_option linter.unusedVariables false
set_option linter.unusedSimpArgs false

/-- A slice of points. -/
def NR (w : World) (B : Nat) (A : Option Addr) (n : Nat) (l : List Nat) : Prop := Reads w B 1 A n (l.map fun (p : Nat) => Value.int .i64 (p : Int))
theorem NR.at_ {w : World} {B n k : Nat} {A : Option Addr} {l : List Nat} (h : NR w B A n l) (hk : k < n) :
    ∃ ad x, A = some ad ∧ ad.block < B ∧ l[k]? = some x ∧ w.cell? (ad.add k) = some (.int .i64 (x : Int)) := by
  obtain ⟨ad, u, e, hb, hx, hc⟩ := Reads.at_ h hk
  rw [List.getElem?_map] at hx
  cases hz : l[k]? with
  | none => rw [hz] at hx; cases hx
  | some x => rw [hz] at hx; cases hx; exact ⟨ad, x, e, hb, rfl, hc⟩
theorem NR.len {w : World} {B n : Nat} {A : Option Addr} {l : List Nat} (h : NR w B A n l) : l.length = n := by simpa using h.1
theorem NR.on {w w' : World} {n : Nat} {A : Option Addr} {l : List Nat} (h : NR w w.heap.size A n l) (hb : Below w.heap.size w w') : NR w' w'.heap.size A n l := Reads.on h hb
theorem NR.ints {w : World} {B n : Nat} {A : Option Addr} {l : List Nat} (h : NR w B A n l) : IR w B A n (l.map fun (p : Nat) => (p : Int)) := by
  unfold IR NR at *
  rw [List.map_map]
  exact h
theorem ofI_nat {l : List Nat} (h : Sc l) : ofI (l.map fun (p : Nat) => (p : Int)) = some (encS l) := by
  unfold ofI
  rw [if_pos]
  · unfold encS
    rw [List.flatMap_map]
  · rw [List.all_eq_true]
    intro x hx
    obtain ⟨p, hp, rfl⟩ := List.mem_map.1 hx
    exact h p hp
theorem one_ints (l : List Nat) : ∀ u ∈ l.map (fun (p : Nat) => Value.int .i64 (p : Int)), u.oneCell' = true := by
  intro u hu
  obtain ⟨s, _, rfl⟩ := List.mem_map.1 hu
  rfl
theorem Reads.take {w : World} {B n m : Nat} {A : Option Addr} {xs : List Value} (h : Reads w B 1 A n xs) (hm : m ≤ n) : Reads w B 1 A m (xs.take m) := by
  refine ⟨by rw [List.length_take, h.1]; omega, fun h0 => ?_⟩
  obtain ⟨ad, e, hb, hc⟩ := h.2 (by omega)
  refine ⟨ad, e, hb, fun j u hu => ?_⟩
  rw [List.getElem?_take] at hu
  split at hu
  · exact hc j u hu
  · cases hu
theorem Reads.cut {w : World} {B n k cap : Nat} {A : Option Addr} {xs : List Value} (h : Reads w B 1 A n xs) (hk : k ≤ n) (hc : n ≤ cap) : Reads w B 1 (if cap = k then A else Option.map (fun x => x.add k) A) (n - k) (xs.drop k) := by
  refine ⟨by rw [List.length_drop, h.1]; omega, fun h0 => ?_⟩
  obtain ⟨ad, e, hb, hcell⟩ := h.2 (by omega)
  subst e
  rw [if_neg (by omega)]
  refine ⟨ad.add k, rfl, by rw [block_of_add]; exact hb, fun j u hu => ?_⟩
  rw [add_of_add]
  exact hcell _ u (by rw [← hu, List.getElem?_drop])

set_option maxHeartbeats 2000000 in
set_option maxRecDepth 100000 in
theorem ordered_any (A : Option Addr) (n c : Nat) (l : List Nat) (m : Nat) (w : World) (h : NR w w.heap.size A n l) (hnc : n ≤ c) (hc : c ≤ 9223372036854775807) (hn : n ≤ 1099511627776) (hm : m ≤ 1114111) (hl : ∀ p ∈ l, p ≤ 1114111) :
    Calls Tryd.prog 39 #[.slice A n c, .int .i64 (m : Int)] w fun e w' => ∃ v, e = .returned v ∧ w'.ownsRow w.heap.size 3 1 v (n + 1) ((ordR l m).map fun (p : Nat) => Value.int .i64 (p : Int)) ∧ Below w.heap.size w w' := by
  have HLN := Lib.hid h.len
  have HR := Lib.hid h; clear h
  have HM := Lib.hid hl; clear hl
  go_enter Tryd.func39, Tryd.ntmps39
  go_wp2_with fail
  go_loop [5] (fun v5 => ∃ k : Nat, k ≤ n ∧ v5 = .int .i64 k ∧ Hid (posR l m n = posR l m k)) (fun v5 => (intOf v5).toNat)
  case atStart => exact ⟨n, Nat.le_refl _, rfl, rfl⟩
  case round =>
    obtain ⟨k, hk, rfl, HP⟩ := hrel
    by_cases hk0 : k = 0
    · have hj0 : decide ((0 : Int) < (k : Int)) = false := decide_eq_false (by omega)
      have hj0n : decide (0 < k) = false := decide_eq_false (by omega)
      have HPOS : Hid (posR l m l.length = k) := by
        show _ = _
        rw [HLN.out, HP.out, hk0]
        rfl
      clear hk0
      have hkz0 : (0 : Int) ≤ (k : Int) := by omega
      have hknz : (k : Int) ≤ (n : Int) := by omega
      have hncz : (n : Int) ≤ (c : Int) := by omega
      have hkcz : (k : Int) ≤ (c : Int) := by omega
      have HR1 : Hid (Reads w w.heap.size 1 A k ((l.take k).map fun (p : Nat) => Value.int .i64 (p : Int))) := by
        have := HR.out.take (m := k) (by omega)
        rwa [← List.map_take] at this
      have HR2 : Hid (∀ W, Below w.heap.size w W → Reads W w.heap.size 1 (if c = k then A else Option.map (fun x => x.add k) A) (n - k) ((l.drop k).map fun (p : Nat) => Value.int .i64 (p : Int))) := fun W hW => by
        have := (HR.out.below hW).cut (k := k) (by omega) hnc
        rwa [← List.map_drop] at this
      have own0 := World.ownsRow_nil w w.heap.size 3 1
      go_wp2_with (first
        | (at_builtin
           refine wpList_app rfl (.tmp 32) (.tmp 35) 24 rfl w.heap.size 3 8 (.int .i64 0) info_int rfl Tryd.underlying24 rfl own0 (A := A) (m := k) (c := c) rfl HR1.out (one_ints _) (by omega) (by omega) (Nat.le_refl _) ?_
           intro v1 w1 hown1 hg1 hat1
           have hb1 := below_app (Below.refl _ w) own0 hg1 (Nat.le_refl _) (Nat.le_refl _)
           clear hg1 hat1 own0)
        | (at_builtin
           refine wpList_app1 rfl (.tmp 37) (.tmp 39) 24 rfl w.heap.size 3 8 (.int .i64 0) info_int rfl Tryd.underlying24 rfl hown1 rfl rfl (by omega) (by omega) hb1.size ?_
           rintro v2 w2 hown2 hb2 hs2 hk2
           clear hk2
           have hb2' := hb1.trans hb2
           clear hown1 hb1 hb2 hs2)
        | (at_builtin
           refine wpList_app rfl (.tmp 41) (.tmp 44) 24 rfl w.heap.size 3 8 (.int .i64 0) info_int rfl Tryd.underlying24 rfl hown2 (A := if c = k then A else Option.map (fun x => x.add k) A) (m := n - k) (c := c - k) rfl (HR2.out _ hb2') (one_ints _) (by omega) (by omega) hb2'.size ?_
           intro v3 w3 hown3 hg3 hat3
           have hb3 := below_app hb2' hown2 hg3 (Nat.le_refl _) hb2'.size
           clear hg3 hat3))
      all_goals
        go_ret
        refine ⟨_, rfl, ?_, hb3⟩
        have e6 : 0 + k + 1 + (n - k) = n + 1 := by omega
        rw [e6] at hown3
        unfold ordR
        rw [HPOS.out]
        simpa [List.map_append] using hown3
    · obtain ⟨j, hij⟩ : ∃ j, k = j + 1 := ⟨k - 1, by omega⟩
      obtain ⟨ad, y, rfl, _, hy, hcy⟩ := HR.out.at_ (k := j) (by omega)
      have HY := Lib.hid hy
      have HYD : Hid (l.getD j 0 = y) := getD_of hy
      have HIJ := Lib.hid hij
      have hj0 : decide ((0 : Int) < (k : Int)) = true := decide_eq_true (by omega)
      have hj0n : decide (0 < k) = true := decide_eq_true (by omega)
      have hj1 : wrap64 ((k : Int) - 1) = (j : Int) := by unfold wrap64; omega
      have hj2 : (k : Int) - 1 = (j : Int) := by omega
      have hj3 : k - 1 = j := by omega
      have hj4 : ((k : Int) - 1).toNat = j := by omega
      have hjn : (j : Int) < (n : Int) := by omega
      have hjn' : j < n := by omega
      clear hy hij hk0
      obtain ⟨my, hmy⟩ : ∃ b, Hid (mk y = b) := ⟨_, rfl⟩
      have HMK : Hid (Calls Tryd.prog 28 #[.int .i64 (y : Int)] w fun e w' => e = .returned (.bool my) ∧ w = w') := mono_eq (refMark_any y w) (by rw [← hmy.out]; rfl)
      obtain ⟨A, hA⟩ : ∃ A, some ad = A := ⟨_, rfl⟩
      cases my with
      | false =>
        have HPOS : Hid (posR l m l.length = k) := by
          show _ = _
          rw [HLN.out, HP.out, HIJ.out]
          unfold posR
          rw [if_neg (fun h => by rw [HYD.out, hmy.out] at h; cases h.1)]
        clear HP HIJ
        clear hA
        have hkz0 : (0 : Int) ≤ (k : Int) := by omega
        have hknz : (k : Int) ≤ (n : Int) := by omega
        have hncz : (n : Int) ≤ (c : Int) := by omega
        have hkcz : (k : Int) ≤ (c : Int) := by omega
        have HR1 : Hid (Reads w w.heap.size 1 (some ad) k ((l.take k).map fun (p : Nat) => Value.int .i64 (p : Int))) := by
          have := HR.out.take (m := k) (by omega)
          rwa [← List.map_take] at this
        have HR2 : Hid (∀ W, Below w.heap.size w W → Reads W w.heap.size 1 (if c = k then some ad else some (ad.add k)) (n - k) ((l.drop k).map fun (p : Nat) => Value.int .i64 (p : Int))) := fun W hW => by
          have := (HR.out.below hW).cut (k := k) (by omega) hnc
          rwa [← List.map_drop] at this
        have own0 := World.ownsRow_nil w w.heap.size 3 1
        go_wp2_with (first
          | (go_at_call 28; refine HMK.out.mono ?_; rintro e w1 ⟨rfl, rfl⟩)
          | (at_builtin
             refine wpList_app rfl (.tmp 32) (.tmp 35) 24 rfl w.heap.size 3 8 (.int .i64 0) info_int rfl Tryd.underlying24 rfl own0 (A := some ad) (m := k) (c := c) rfl HR1.out (one_ints _) (by omega) (by omega) (Nat.le_refl _) ?_
             intro v1 w1 hown1 hg1 hat1
             have hb1 := below_app (Below.refl _ w) own0 hg1 (Nat.le_refl _) (Nat.le_refl _)
             clear hg1 hat1 own0)
          | (at_builtin
             refine wpList_app1 rfl (.tmp 37) (.tmp 39) 24 rfl w.heap.size 3 8 (.int .i64 0) info_int rfl Tryd.underlying24 rfl hown1 rfl rfl (by omega) (by omega) hb1.size ?_
             rintro v2 w2 hown2 hb2 hs2 hk2
             clear hk2
             have hb2' := hb1.trans hb2
             clear hown1 hb1 hb2 hs2)
          | (at_builtin
             refine wpList_app rfl (.tmp 41) (.tmp 44) 24 rfl w.heap.size 3 8 (.int .i64 0) info_int rfl Tryd.underlying24 rfl hown2 (A := if c = k then some ad else some (ad.add k)) (m := n - k) (c := c - k) rfl (HR2.out _ hb2') (one_ints _) (by omega) (by omega) hb2'.size ?_
             intro v3 w3 hown3 hg3 hat3
             have hb3 := below_app hb2' hown2 hg3 (Nat.le_refl _) hb2'.size
             clear hg3 hat3))
        all_goals
          go_ret
          refine ⟨_, rfl, ?_, hb3⟩
          have e6 : 0 + k + 1 + (n - k) = n + 1 := by omega
          rw [e6] at hown3
          unfold ordR
          rw [HPOS.out]
          simpa [List.map_append] using hown3
      | true =>
        obtain ⟨cy, hcyy⟩ : ∃ b, Hid (cls y = b) := ⟨_, rfl⟩
        obtain ⟨cm, hcm⟩ : ∃ b, Hid (cls m = b) := ⟨_, rfl⟩
        have HC1 : Hid (Calls Tryd.prog 20 #[.int .i64 (y : Int)] w fun e w' => e = .returned (.int .i64 cy) ∧ w = w') := mono_eq (refClass_any y w) (by rw [← hcyy.out]; rfl)
        have HC2 : Hid (Calls Tryd.prog 20 #[.int .i64 (m : Int)] w fun e w' => e = .returned (.int .i64 cm) ∧ w = w') := mono_eq (refClass_any m w) (by rw [← hcm.out]; rfl)
        by_cases hlt : cm < cy
        · have hcd : decide (cm < cy) = true := decide_eq_true hlt
          have HP2 : Hid (posR l m n = posR l m j) := by
            show _ = _
            rw [HP.out, HIJ.out]
            show (if mk (l.getD j 0) = true ∧ cls m < cls (l.getD j 0) then posR l m j else j + 1) = _
            rw [if_pos ⟨by rw [HYD.out]; exact hmy.out, by rw [HYD.out, hcyy.out, hcm.out]; exact hlt⟩]
          clear HP hA
          go_wp2_with (first
            | (go_at_call 28; refine HMK.out.mono ?_; rintro e w1 ⟨rfl, rfl⟩)
            | (go_at_call 20; ((with_reducible refine HC1.out.mono ?_); rintro e w1 ⟨rfl, rfl⟩))
            | (go_at_call 20; ((with_reducible refine HC2.out.mono ?_); rintro e w1 ⟨rfl, rfl⟩)))
          go_round
          case rel => exact ⟨j, by omega, by go_num, HP2⟩
          case measure => simp [intOf]; have := HIJ.out; omega
        · have hcd : decide (cm < cy) = false := decide_eq_false hlt
          have HPOS : Hid (posR l m l.length = k) := by
            show _ = _
            rw [HLN.out, HP.out, HIJ.out]
            show (if mk (l.getD j 0) = true ∧ cls m < cls (l.getD j 0) then posR l m j else j + 1) = _
            rw [if_neg (fun h => by rw [HYD.out, hcyy.out, hcm.out] at h; exact hlt h.2)]
          clear HP HIJ hA
          have hkz0 : (0 : Int) ≤ (k : Int) := by omega
          have hknz : (k : Int) ≤ (n : Int) := by omega
          have hncz : (n : Int) ≤ (c : Int) := by omega
          have hkcz : (k : Int) ≤ (c : Int) := by omega
          have HR1 : Hid (Reads w w.heap.size 1 (some ad) k ((l.take k).map fun (p : Nat) => Value.int .i64 (p : Int))) := by
            have := HR.out.take (m := k) (by omega)
            rwa [← List.map_take] at this
          have HR2 : Hid (∀ W, Below w.heap.size w W → Reads W w.heap.size 1 (if c = k then some ad else some (ad.add k)) (n - k) ((l.drop k).map fun (p : Nat) => Value.int .i64 (p : Int))) := fun W hW => by
            have := (HR.out.below hW).cut (k := k) (by omega) hnc
            rwa [← List.map_drop] at this
          have own0 := World.ownsRow_nil w w.heap.size 3 1
          go_wp2_with (first
            | (go_at_call 28; refine HMK.out.mono ?_; rintro e w1 ⟨rfl, rfl⟩)
            | (go_at_call 20; ((with_reducible refine HC1.out.mono ?_); rintro e w1 ⟨rfl, rfl⟩))
            | (go_at_call 20; ((with_reducible refine HC2.out.mono ?_); rintro e w1 ⟨rfl, rfl⟩))
            | (at_builtin
               refine wpList_app rfl (.tmp 32) (.tmp 35) 24 rfl w.heap.size 3 8 (.int .i64 0) info_int rfl Tryd.underlying24 rfl own0 (A := some ad) (m := k) (c := c) rfl HR1.out (one_ints _) (by omega) (by omega) (Nat.le_refl _) ?_
               intro v1 w1 hown1 hg1 hat1
               have hb1 := below_app (Below.refl _ w) own0 hg1 (Nat.le_refl _) (Nat.le_refl _)
               clear hg1 hat1 own0)
            | (at_builtin
               refine wpList_app1 rfl (.tmp 37) (.tmp 39) 24 rfl w.heap.size 3 8 (.int .i64 0) info_int rfl Tryd.underlying24 rfl hown1 rfl rfl (by omega) (by omega) hb1.size ?_
               rintro v2 w2 hown2 hb2 hs2 hk2
               clear hk2
               have hb2' := hb1.trans hb2
               clear hown1 hb1 hb2 hs2)
            | (at_builtin
               refine wpList_app rfl (.tmp 41) (.tmp 44) 24 rfl w.heap.size 3 8 (.int .i64 0) info_int rfl Tryd.underlying24 rfl hown2 (A := if c = k then some ad else some (ad.add k)) (m := n - k) (c := c - k) rfl (HR2.out _ hb2') (one_ints _) (by omega) (by omega) hb2'.size ?_
               intro v3 w3 hown3 hg3 hat3
               have hb3 := below_app hb2' hown2 hg3 (Nat.le_refl _) hb2'.size
               clear hg3 hat3))
          all_goals
            go_ret
            refine ⟨_, rfl, ?_, hb3⟩
            have e6 : 0 + k + 1 + (n - k) = n + 1 := by omega
            rw [e6] at hown3
            unfold ordR
            rw [HPOS.out]
            simpa [List.map_append] using hown3
end Go.Proofs.YtplchlkdijjamaaDoor
