import Derived.Test.YtgbhpmbkhhbifaaProg
import Derived.Test.YtgbhpmbkhhbifaaWords
import Derived.Deep.QuietTactic
import Derived.BigQuiet
import Derived.Lib.Strings
import Derived.Test.YtgbhpmbkhhbifaaPlainCol
namespace Go.Proofs.Ytgbhpmbkhhbifaa
open Go.RowKit
set_option linter.unusedVariables false
set_option linter.unusedSimpArgs false

theorem ret_bool {a b : Bool} (h : a = b) : Ending.returned (.bool a) = .returned (.bool b) := by rw [h]
theorem ret_int {k : IntKind} {a b : Int} (h : a = b) : Ending.returned (.int k a) = .returned (.int k b) := by rw [h]

/-- Does s begin with t? -/
def preS (t s : ByteArray) : Bool := Col.preB t.data.toList s.data.toList
theorem prefix_raw (s t : ByteArray) (h : t.size ≤ s.size) : ((s.extract 0 t.size).toList == t.toList) = preS t s := by
  have := Lib.hasPrefix_raw s t
  simpa [h, Lib.hasPrefix, preS, Col.preB] using this
theorem prefix_long (s t : ByteArray) (h : ¬ t.size ≤ s.size) : preS t s = false := by
  have := Lib.hasPrefix_raw s t
  simpa [h, Lib.hasPrefix, preS, Col.preB] using this

set_option maxHeartbeats 400000 in
theorem begins_any (s t : ByteArray) (w : World) (hs : s.size ≤ 9223372036854775807) (ht : t.size ≤ 9223372036854775807) :
    Calls Try.prog 30 #[.string s, .string t] w fun e w' => e = .returned (.bool (preS t s)) ∧ w = w' := by
  by_cases h : t.size ≤ s.size
  · go_enter Try.func30, Try.ntmps30
    go_wp2
    go_ret
    exact ⟨ret_bool (prefix_raw s t h), rfl⟩
  · go_enter Try.func30, Try.ntmps30
    go_wp2
    go_ret
    exact ⟨ret_bool (prefix_long s t h).symm, rfl⟩

set_option maxHeartbeats 400000 in
theorem hasPrefix_lite (s t : ByteArray) (w : World) (hs : s.size ≤ 9223372036854775807) (ht : t.size ≤ 9223372036854775807) :
    Calls Try.prog 48 #[.string s, .string t] w fun e w' => e = .returned (.bool (preS t s)) ∧ w = w' := by
  by_cases h : t.size ≤ s.size
  · go_enter Try.func48, Try.ntmps48
    go_wp2
    go_ret
    exact ⟨ret_bool (prefix_raw s t h), rfl⟩
  · go_enter Try.func48, Try.ntmps48
    go_wp2
    go_ret
    exact ⟨ret_bool (prefix_long s t h).symm, rfl⟩

set_option maxHeartbeats 400000 in
theorem hasPrefix_any (s t : ByteArray) (w : World) (hs : s.size ≤ 9223372036854775807) (ht : t.size ≤ 9223372036854775807) :
    Calls Try.prog 43 #[.string s, .string t] w fun e w' => e = .returned (.bool (preS t s)) ∧ w = w' := by
  go_enter Try.func43, Try.ntmps43
  go_wp2_with (go_at_call 48; refine (hasPrefix_lite s t _ hs ht).mono ?_; rintro e w' ⟨rfl, rfl⟩)
  go_ret
  exact ⟨rfl, rfl⟩
end Go.Proofs.Ytgbhpmbkhhbifaa
