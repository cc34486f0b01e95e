import Derived.Test.YtplchlkdijjamaaDoorQOrd
import Derived.Test.YtplchlkdijjamaaDoorQClu
namespace Go.Proofs.YtplchlkdijjamaaDoor
open Go.RowKit Ru
set_option linter.unusedVariables false
set_option linter.unusedSimpArgs false
set_option maxHeartbeats 400000 in
theorem sameO_any (s t : ByteArray) (w : World) (hs : s.size ≤ 1099511627) (ht : t.size ≤ 1099511627) (hT : Tabs w) :
    Calls Tryd.prog 26 #[.string s, .string t] w fun e w' => e = .returned (.bool (decide (order s.data.toList = order t.data.toList))) ∧ Below w.heap.size w w' := by
  have H1 := Lib.hid (order_any s w hs hT)
  have H2 := Lib.hid fun W (hb : Below w.heap.size w W) => order_any t W ht (hT.on hb)
  have HE := Lib.hid (beq_bytes (strL (order s.data.toList)) (strL (order t.data.toList)))
  clear hT
  obtain ⟨a, ha⟩ : ∃ a, Hid (strL (order s.data.toList) = a) := ⟨_, rfl⟩
  obtain ⟨b, hb⟩ : ∃ b, Hid (strL (order t.data.toList) = b) := ⟨_, rfl⟩
  unfold ordPost at H1 H2
  rw [ha.out] at H1
  rw [hb.out] at H2
  have HR : Hid (decide (order s.data.toList = order t.data.toList) = (a.toList == b.toList)) := by
    show _ = _
    rw [← ha.out, ← hb.out, HE.out]
    congr 1
    refine propext ⟨fun h => by rw [h], fun h => ?_⟩
    have := congrArg (fun x : ByteArray => x.data.toList) h
    simpa [strL_data] using this
  rw [HR.out]
  clear HE
  go_enter Tryd.func26, Tryd.ntmps26
  go_wp2_with (first
    | (go_at_call 24; ((with_reducible refine H1.out.mono ?_); rintro e w1 ⟨rfl, hb1⟩))
    | (go_at_call 24; ((with_reducible refine (H2.out _ (by assumption)).mono ?_); rintro e w2 ⟨rfl, hb2⟩)))
  go_ret
  exact ⟨rfl, hb1.trans (hb2.mono hb1.size)⟩
set_option maxHeartbeats 400000 in
theorem few_any (s t : ByteArray) (w : World) :
    Calls Tryd.prog 12 #[.string s, .string t] w fun e w' => e = .returned (.bool (decide ((s.size : Int) ≤ 2000) && decide ((t.size : Int) ≤ 2000))) ∧ w = w' := by
  by_cases h1 : (s.size : Int) ≤ 2000
  · have d1 : decide ((s.size : Int) ≤ 2000) = true := decide_eq_true h1
    go_enter Tryd.func12, Tryd.ntmps12
    go_wp2
    go_ret
    exact ⟨by rw [d1]; rfl, rfl⟩
  · have d1 : decide ((s.size : Int) ≤ 2000) = false := decide_eq_false h1
    go_enter Tryd.func12, Tryd.ntmps12
    go_wp2
    go_ret
    exact ⟨rfl, rfl⟩
end Go.Proofs.YtplchlkdijjamaaDoor
