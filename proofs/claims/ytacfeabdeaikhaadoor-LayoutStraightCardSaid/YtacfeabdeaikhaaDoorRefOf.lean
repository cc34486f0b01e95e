import Derived.Test.YtacfeabdeaikhaaDoorPts
import Derived.Test.YtacfeabdeaikhaaDoorPlainBack
import Derived.Test.YtacfeabdeaikhaaDoorAppStep
namespace Go.Proofs.YtacfeabdeaikhaaDoor
open Go.RowKit
set_option linter.unusedVariables false
set_option linter.unusedSimpArgs false

/-- What 'Of' hands back. -/
def ofV (o : Option (List UInt8)) : Value :=
  match o with
  | none => .tuple #[.string ⟨#[]⟩, .bool false]
  | some b => .tuple #[.string (strL b), .bool true]
theorem strL_data (l : List UInt8) : (strL l).data.toList = l := by simp [strL]
theorem strL_of {s : ByteArray} {l : List UInt8} (h : s.data.toList = l) : s = strL l := ba_ext (by rw [h, strL_data])
theorem strL_size (l : List UInt8) : (strL l).size = l.length := by rw [Lib.size_eq, strL_data]
theorem app_data (a b : ByteArray) : (a ++ b).data.toList = a.data.toList ++ b.data.toList := by simp
theorem flat_le (l : List Int) : (l.flatMap Ru.encL).length ≤ 4 * l.length := by
  induction l with
  | nil => simp
  | cons x t ih =>
    have := (Ru.encL_len x).2
    simp only [List.flatMap_cons, List.length_append, List.length_cons]
    omega
theorem ofI_none {l : List Int} {k : Nat} {x : Int} (hx : l[k]? = some x) (h : Ru.scalarB x = false) : Ru.ofI l = none := by
  unfold Ru.ofI
  rw [if_neg]
  intro ha
  have := List.all_eq_true.1 ha x (List.mem_of_getElem? hx)
  rw [h] at this
  cases this
theorem take_at {α : Type} {l : List α} {k : Nat} {x : α} (h : l[k]? = some x) : l.take (k + 1) = l.take k ++ [x] := by rw [List.take_add_one, h]; rfl

end Go.Proofs.YtacfeabdeaikhaaDoor
