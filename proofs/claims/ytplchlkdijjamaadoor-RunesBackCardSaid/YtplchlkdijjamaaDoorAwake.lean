import Derived.Test.YtplchlkdijjamaaDoorQSame
import Derived.Test.YtplchlkdijjamaaDoorEqual
import Derived.Test.YtplchlkdijjamaaDoorSame
namespace Go.Proofs.YtplchlkdijjamaaDoor
open Go.RowKit Ru
set_option linter.unusedVariables false
set_option linter.unusedSimpArgs false

theorem ir_new (w : World) (e : TypeId) (l : List Int) (c : Array Value) (hc : c.toList = l.map (.int .i64)) (n : Nat) (hn : n = l.length) : IR (w.alloc (.cells c e)) (w.alloc (.cells c e)).heap.size (some ⟨w.heap.size, 0, none⟩) n l := by
  subst hn
  have h := reads_new w e c
  have e1 : c.size = l.length := by rw [← Array.length_toList, hc, List.length_map]
  rw [hc, e1] at h
  exact h
theorem sr_new (w : World) (e : TypeId) (l : List ByteArray) (c : Array Value) (hc : c.toList = l.map .string) (n : Nat) (hn : n = l.length) : SR (w.alloc (.cells c e)) (w.alloc (.cells c e)).heap.size (some ⟨w.heap.size, 0, none⟩) n l := by
  subst hn
  have h := reads_new w e c
  have e1 : c.size = l.length := by rw [← Array.length_toList, hc, List.length_map]
  rw [hc, e1] at h
  exact h
theorem of_new (w W : World) (c : Array Value) (l : List Int) {n m : Nat} (e : TypeId) (hW : W = w.alloc (.cells c e)) (hc : c.toList = l.map (.int .i64)) (hn : n = l.length ∧ n ≤ 1000) {v' : Value} (hv : ofV (Ru.ofI l) = v') :
    Calls Tryd.prog 17 #[.slice (some ⟨w.heap.size, 0, none⟩) n m] W fun e w' => e = .returned v' ∧ Below w.heap.size w w' := by
  subst hW
  refine (mono_eq (of_any _ n m l _ (ir_new w e l c hc n hn.1) (by omega)) hv).mono ?_
  rintro e2 w' ⟨rfl, hb⟩
  exact ⟨rfl, (below_new w _).trans (hb.mono (by simp))⟩
theorem points_some (s : ByteArray) (d : List Nat) (w : World) (hs : s.size ≤ 1099511627776) (hT : Tabs w) (hd : points s.data.toList = some d) :
    Calls Tryd.prog 14 #[.string s] w fun e w' => ∃ A c, e = .returned (.tuple #[.slice A d.length c, .bool true]) ∧ IR w' w'.heap.size A d.length (d.map fun (p : Nat) => (p : Int)) ∧ Below w.heap.size w w' := by
  refine (points_any s w hs hT).mono ?_
  rw [hd]
  rintro e w' ⟨_, h2, hb⟩
  obtain ⟨v, rfl, hown⟩ := h2 d rfl
  obtain ⟨A, c, rfl, _, _, hr⟩ := own_form hown
  exact ⟨A, c, rfl, NR.ints hr, hb⟩
theorem points_no (s : ByteArray) (w : World) (hs : s.size ≤ 1099511627776) (hT : Tabs w) (hd : points s.data.toList = none) :
    Calls Tryd.prog 14 #[.string s] w fun e w' => e = .returned (.tuple #[.slice none 0 0, .bool false]) ∧ Below w.heap.size w w' := by
  refine (points_any s w hs hT).mono ?_
  rw [hd]
  rintro e w' ⟨h1, _, hb⟩
  exact ⟨h1 rfl, hb⟩
theorem clusters_some (s : ByteArray) (l : List ByteArray) (w : World) (hs : s.size ≤ 1099511627) (hT : Tabs w) (hd : clusB s.data.toList = l) :
    Calls Tryd.prog 22 #[.string s] w fun e w' => ∃ A c, e = .returned (.slice A l.length c) ∧ SR w' w'.heap.size A l.length l ∧ Below w.heap.size w w' := by
  subst hd
  refine (clusters_any s w hs hT).mono ?_
  rintro e w' ⟨v, rfl, hown, hb⟩
  obtain ⟨A, c, rfl, _, _, hr⟩ := own_form hown
  exact ⟨A, c, rfl, hr, hb⟩
theorem drewN_below {w w' : World} (o : Obj) (h : ∃ k, w' = (w.alloc o).drewN k) : Below w.heap.size w w' := by
  obtain ⟨k, rfl⟩ := h
  exact below_drewN (below_new _ _) _
theorem same_new {A : Option Addr} {c m : Nat} (w : World) (cs : Array Value) (l : List Int) (t : TypeId) {n : Nat} (h : IR w w.heap.size A n l) (hc : cs.toList = l.map (.int .i64)) (hn : n = l.length ∧ n ≤ 1000) :
    Calls Tryd.prog 16 #[.slice A n c, .slice (some ⟨w.heap.size, 0, none⟩) n m] (w.alloc (.cells cs t)) fun e w' => e = .returned (.bool true) ∧ Below w.heap.size w w' := by
  refine (same_ints A _ n n c m l l _ (IR.on h (below_new _ _)) (ir_new w t l cs hc n hn.1) (by omega) (by omega)).mono ?_
  rintro e w' ⟨rfl, hk⟩
  exact ⟨by rw [beq_self_eq_true], drewN_below _ hk⟩
theorem equal_new {A : Option Addr} {c m : Nat} (w : World) (cs : Array Value) (l : List ByteArray) (t : TypeId) {n : Nat} (h : SR w w.heap.size A n l) (hc : cs.toList = l.map .string) (hn : n = l.length ∧ n ≤ 1000) :
    Calls Tryd.prog 21 #[.slice A n c, .slice (some ⟨w.heap.size, 0, none⟩) n m] (w.alloc (.cells cs t)) fun e w' => e = .returned (.bool true) ∧ Below w.heap.size w w' := by
  refine (equal_strs A _ n n c m l l _ (SR.on h (below_new _ _)) (sr_new w t l cs hc n hn.1) (by omega) (by omega)).mono ?_
  rintro e w' ⟨rfl, hk⟩
  exact ⟨by rw [decide_eq_true rfl], drewN_below _ hk⟩

set_option maxHeartbeats 4000000 in
set_option maxRecDepth 100000 in
theorem awake_any (w : World) (hT : Tabs w) : Calls Tryd.prog 13 #[] w fun e w' => e = .returned (.bool true) ∧ Below w.heap.size w w' := by
  have HT := Lib.hid hT; clear hT
  obtain ⟨w0, hw0⟩ : ∃ w0, Hid (w = w0) := ⟨_, rfl⟩
  have HB0 : Hid (Below w.heap.size w w0) := by rw [← hw0.out]; exact Below.refl _ _
  rw [show Calls Tryd.prog 13 #[] w = Calls Tryd.prog 13 #[] w0 by rw [hw0.out]]
  go_enter Tryd.func13, Tryd.ntmps13
  go_wp2_with fail
  refine (of_new w0 (w0.alloc (.cells #[.int .i64 97, .int .i64 769, .int .i64 803] 3)) #[.int .i64 97, .int .i64 769, .int .i64 803] [97, 769, 803] _ rfl rfl (by decide) (v' := .tuple #[.string ⟨#[97, 204, 129, 204, 163]⟩, .bool true]) (by rw [show Ru.ofI [97, 769, 803] = some [97, 204, 129, 204, 163] by decide +kernel]; rfl)).mono ?_
  rintro e w1 ⟨rfl, hb⟩
  have HB1 : Hid (Below w.heap.size w w1) := HB0.out.trans (hb.mono HB0.out.size)
  clear hb
  go_wp2_with fail
  refine (points_some ⟨#[97, 204, 129, 98]⟩ [97, 769, 98] w1 (by decide) (HT.out.on HB1.out) (by decide +kernel)).mono ?_
  rintro e w2 ⟨A2, c2, rfl, hp, hb⟩
  have HB2 : Hid (Below w.heap.size w w2) := HB1.out.trans (hb.mono HB1.out.size)
  clear hb
  have RP2 := Lib.hid hp
  clear hp
  go_wp2_with fail
  refine (points_no ⟨#[255]⟩ w2 (by decide) (HT.out.on HB2.out) (by decide +kernel)).mono ?_
  rintro e w3 ⟨rfl, hb⟩
  have RP3 := Lib.hid (IR.on RP2.out hb)
  have HB3 : Hid (Below w.heap.size w w3) := HB2.out.trans (hb.mono HB2.out.size)
  clear hb
  go_wp2_with fail
  refine (points_no ⟨#[192, 128]⟩ w3 (by decide) (HT.out.on HB3.out) (by decide +kernel)).mono ?_
  rintro e w4 ⟨rfl, hb⟩
  have RP4 := Lib.hid (IR.on RP3.out hb)
  have HB4 : Hid (Below w.heap.size w w4) := HB3.out.trans (hb.mono HB3.out.size)
  clear hb
  go_wp2_with fail
  refine (of_new w4 (w4.alloc (.cells #[.int .i64 55296] 3)) #[.int .i64 55296] [55296] _ rfl rfl (by decide) (v' := .tuple #[.string ⟨#[]⟩, .bool false]) (by rw [show Ru.ofI [55296] = none by decide +kernel]; rfl)).mono ?_
  rintro e w5 ⟨rfl, hb⟩
  have RP5 := Lib.hid (IR.on RP4.out hb)
  have HB5 : Hid (Below w.heap.size w w5) := HB4.out.trans (hb.mono HB4.out.size)
  clear hb
  go_wp2_with fail
  refine (same_new (c := c2) w5 #[.int .i64 97, .int .i64 769, .int .i64 98] [97, 769, 98] 3 RP5.out rfl (by decide)).mono ?_
  rintro e w6 ⟨rfl, hb⟩
  have HB6 : Hid (Below w.heap.size w w6) := HB5.out.trans (hb.mono HB5.out.size)
  clear hb
  go_wp2_with fail
  refine (clusters_some ⟨#[97, 204, 129, 98]⟩ [⟨#[97, 204, 129]⟩, ⟨#[98]⟩] w6 (by decide) (HT.out.on HB6.out) (by decide +kernel)).mono ?_
  rintro e w7 ⟨A7, c7, rfl, hp, hb⟩
  have HB7 : Hid (Below w.heap.size w w7) := HB6.out.trans (hb.mono HB6.out.size)
  clear hb
  have RC7 := Lib.hid hp
  clear hp
  go_wp2_with fail
  refine (equal_new (c := c7) w7 #[.string ⟨#[97, 204, 129]⟩, .string ⟨#[98]⟩] [⟨#[97, 204, 129]⟩, ⟨#[98]⟩] 9 RC7.out rfl (by decide)).mono ?_
  rintro e w8 ⟨rfl, hb⟩
  have HB8 : Hid (Below w.heap.size w w8) := HB7.out.trans (hb.mono HB7.out.size)
  clear hb
  go_wp2_with fail
  refine (mono_eq (order_any ⟨#[97, 204, 129, 204, 163]⟩ w8 (by decide) (HT.out.on HB8.out)) (v' := .string ⟨#[97, 204, 163, 204, 129]⟩) (by unfold ordPost; rw [show order (⟨#[97, 204, 129, 204, 163]⟩ : ByteArray).data.toList = [97, 204, 163, 204, 129] by decide +kernel]; rfl)).mono ?_
  rintro e w9 ⟨rfl, hb⟩
  have HB9 : Hid (Below w.heap.size w w9) := HB8.out.trans (hb.mono HB8.out.size)
  clear hb
  go_wp2_with fail
  refine (mono_eq (order_any ⟨#[97, 204, 163, 204, 129]⟩ w9 (by decide) (HT.out.on HB9.out)) (v' := .string ⟨#[97, 204, 163, 204, 129]⟩) (by unfold ordPost; rw [show order (⟨#[97, 204, 163, 204, 129]⟩ : ByteArray).data.toList = [97, 204, 163, 204, 129] by decide +kernel]; rfl)).mono ?_
  rintro e w10 ⟨rfl, hb⟩
  have HB10 : Hid (Below w.heap.size w w10) := HB9.out.trans (hb.mono HB9.out.size)
  clear hb
  go_wp2_with fail
  refine (mono_eq (sameO_any ⟨#[97, 204, 129, 204, 163]⟩ ⟨#[97, 204, 163, 204, 129]⟩ w10 (by decide) (by decide) (HT.out.on HB10.out)) (v' := .bool true) (congrArg Value.bool (by decide +kernel))).mono ?_
  rintro e w11 ⟨rfl, hb⟩
  have HB11 : Hid (Below w.heap.size w w11) := HB10.out.trans (hb.mono HB10.out.size)
  clear hb
  go_wp2_with fail
  refine (mono_eq (sameO_any ⟨#[97]⟩ ⟨#[98]⟩ w11 (by decide) (by decide) (HT.out.on HB11.out)) (v' := .bool false) (congrArg Value.bool (by decide +kernel))).mono ?_
  rintro e w12 ⟨rfl, hb⟩
  have HB12 : Hid (Below w.heap.size w w12) := HB11.out.trans (hb.mono HB11.out.size)
  clear hb
  go_wp2_with fail
  refine (mono_eq (class_any 803 w12) (v' := .int .i64 220) (congrArg (Value.int .i64) (by decide +kernel))).mono ?_
  rintro e w13 ⟨rfl, rfl⟩
  go_wp2_with fail
  refine (mono_eq (class_any 807 w12) (v' := .int .i64 202) (congrArg (Value.int .i64) (by decide +kernel))).mono ?_
  rintro e w13 ⟨rfl, rfl⟩
  go_wp2_with fail
  refine (mono_eq (class_any 879 w12) (v' := .int .i64 230) (congrArg (Value.int .i64) (by decide +kernel))).mono ?_
  rintro e w13 ⟨rfl, rfl⟩
  go_wp2_with fail
  refine (mono_eq (class_any 97 w12) (v' := .int .i64 0) (congrArg (Value.int .i64) (by decide +kernel))).mono ?_
  rintro e w13 ⟨rfl, rfl⟩
  go_wp2
  go_ret
  exact ⟨rfl, HB12.out⟩
end Go.Proofs.YtplchlkdijjamaaDoor
