import Derived.Test.YtplchlkdijjamaaDoorPts
import Derived.Test.YtplchlkdijjamaaDoorPlainBack
import Derived.Test.YtplchlkdijjamaaDoorAppStep
namespace Go.Proofs.YtplchlkdijjamaaDoor
open Go.RowKit
set_option linter.unusedVariables false
set_option linter.unusedSimpArgs false

/-- What 'Of' hands back. -/
def ofV (o : Option (List UInt8)) : Value :=
  match o with
  | none => .tuple #[.string ⟨#[]⟩, .bool false]
  | some b => .tuple #[.string (strL b), .bool true]
theorem strL_data (l : List UInt8) : (strL l).data.toList = l := by simp [strL]
theorem strL_of {s : ByteArray} {l : List UInt8} (h : s.data.toList = l) : s = strL l := ba_ext (by rw [h, strL_data])
theorem strL_size (l : List UInt8) : (strL l).size = l.length := by rw [Lib.size_eq, strL_data]
theorem app_data (a b : ByteArray) : (a ++ b).data.toList = a.data.toList ++ b.data.toList := by simp
theorem flat_le (l : List Int) : (l.flatMap Ru.encL).length ≤ 4 * l.length := by
  induction l with
  | nil => simp
  | cons x t ih =>
    have := (Ru.encL_len x).2
    simp only [List.flatMap_cons, List.length_append, List.length_cons]
    omega
theorem ofI_none {l : List Int} {k : Nat} {x : Int} (hx : l[k]? = some x) (h : Ru.scalarB x = false) : Ru.ofI l = none := by
  unfold Ru.ofI
  rw [if_neg]
  intro ha
  have := List.all_eq_true.1 ha x (List.mem_of_getElem? hx)
  rw [h] at this
  cases this
theorem take_at {α : Type} {l : List α} {k : Nat} {x : α} (h : l[k]? = some x) : l.take (k + 1) = l.take k ++ [x] := by rw [List.take_add_one, h]; rfl

set_option maxHeartbeats 1000000 in
set_option maxRecDepth 100000 in
theorem refOf_any (A : Option Addr) (n c : Nat) (l : List Int) (w : World) (h : IR w w.heap.size A n l) (hn : n ≤ 1099511627776) :
    Calls Tryd.prog 18 #[.slice A n c] w fun e w' => e = .returned (ofV (Ru.ofI l)) ∧ Below w.heap.size w w' := by
  have HLN := Lib.hid h.len
  have HR := Lib.hid h; clear h
  go_enter Tryd.func18, Tryd.ntmps18
  go_wp2_with fail
  go_loopw [4, 5] (fun v4 v5 wr => ∃ (k : Nat) (tb : ByteArray), k ≤ n ∧ v5 = .int .i64 k ∧ v4 = .string tb ∧ Hid (tb.data.toList = (l.take k).flatMap Ru.encL) ∧ Hid ((l.take k).all Ru.scalarB = true) ∧ Hid (Below w.heap.size w wr)) (fun _ v5 _ => n - (intOf v5).toNat)
  case atStart => exact ⟨0, ⟨#[]⟩, Nat.zero_le _, rfl, rfl, rfl, rfl, Below.refl _ _⟩
  case round =>
    obtain ⟨k, tb, hk, rfl, rfl, HT, HA, HB⟩ := hrel
    have htb : tb.size ≤ 4 * k := by
      rw [Lib.size_eq, HT.out]
      have := flat_le (l.take k)
      rw [List.length_take] at this
      omega
    by_cases hlt : k < n
    · have hkz : (k : Int) < (n : Int) := by omega
      obtain ⟨ad, x, rfl, _, hx, hcx⟩ := (IR.on HR.out HB.out).at_ hlt
      have HX := Lib.hid hx; clear hx
      have HS := Lib.hid (scalar_any x wr)
      obtain ⟨b, hb⟩ : ∃ b, Hid (Ru.scalarB x = b) := ⟨_, rfl⟩
      rw [hb.out] at HS
      cases b with
      | false =>
        have HRES : Hid (Ru.ofI l = none) := ofI_none HX.out hb.out
        go_wp2_with (go_at_call 33; refine HS.out.mono ?_; rintro e w1 ⟨rfl, rfl⟩)
        go_ret2
        exact ⟨by rw [HRES.out]; rfl, HB.out⟩
      | true =>
        obtain ⟨p, rfl⟩ : ∃ p : Nat, x = (p : Int) := by
          have := hb.out
          unfold Ru.scalarB at this
          rw [Bool.and_eq_true, Bool.and_eq_true] at this
          have h0 := of_decide_eq_true this.1.1
          exact ⟨x.toNat, by omega⟩
        have hp := scalar_le hb.out
        have HE := Lib.hid (encoded_any p wr hp)
        have hel : (strL (Ru.encL (p : Int))).size ≤ 4 := by rw [strL_size]; exact (Ru.encL_len _).2
        have hcat : tb.size + (strL (Ru.encL (p : Int))).size ≤ 9223372036854775807 := by omega
        have HT2 : Hid ((tb ++ strL (Ru.encL (p : Int))).data.toList = (l.take (k + 1)).flatMap Ru.encL) := by
          show _ = _
          rw [take_at HX.out, List.flatMap_append, app_data, HT.out, strL_data]
          simp
        have HA2 : Hid ((l.take (k + 1)).all Ru.scalarB = true) := by
          show _ = _
          rw [take_at HX.out, List.all_append, HA.out]
          simp [hb.out]
        go_wp2_with (first
          | (go_at_call 33; refine HS.out.mono ?_; rintro e w1 ⟨rfl, rfl⟩)
          | (go_at_call 34; refine HE.out.mono ?_; rintro e w1 ⟨rfl, hb1⟩))
        have HB1 : Hid (Below w.heap.size w w1) := HB.out.trans (hb1.mono HB.out.size)
        clear hb1
        go_roundw
        case rel => exact ⟨k + 1, _, by omega, by go_num, rfl, HT2, HA2, HB1⟩
        case measure => simp [intOf]; omega
    · obtain rfl : n = k := by omega
      have hkz : ¬ (n : Int) < (n : Int) := by omega
      have HRES : Hid (Ru.ofI l = some tb.data.toList) := by
        show _ = _
        have h1 := HT.out
        have h2 := HA.out
        rw [List.take_of_length_le (by rw [HLN.out]; exact Nat.le_refl _)] at h1 h2
        unfold Ru.ofI
        rw [if_pos h2, h1]
      go_wp2
      go_ret2
      refine ⟨?_, HB.out⟩
      rw [HRES.out]
      show _ = Ending.returned (.tuple #[.string (strL tb.data.toList), .bool true])
      rw [← strL_of (rfl : tb.data.toList = tb.data.toList)]
      rfl
end Go.Proofs.YtplchlkdijjamaaDoor
