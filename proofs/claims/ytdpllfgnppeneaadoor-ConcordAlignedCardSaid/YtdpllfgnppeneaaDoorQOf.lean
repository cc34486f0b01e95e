import Derived.Test.YtdpllfgnppeneaaDoorG03
import Derived.Test.YtdpllfgnppeneaaDoorG04
import Derived.Test.YtdpllfgnppeneaaDoorG05
import Derived.IntWalk
import Derived.Laws.BytesArg
namespace Go.Proofs.YtdpllfgnppeneaaDoor
open Go.RowKit Ru
set_option linter.unusedVariables false
set_option linter.unusedSimpArgs false

theorem byteCells_len (l : List UInt8) : (Lib.byteCells l).length = l.length := by simp [Lib.byteCells]
theorem byteCells_app (a b : List UInt8) : Lib.byteCells (a ++ b) = Lib.byteCells a ++ Lib.byteCells b := by simp [Lib.byteCells]
theorem runeCells_enc {p : Nat} (h : scalarB (p : Int) = true) : Lib.runeCells (p : Int) = Lib.byteCells (encL (p : Int)) := by
  rw [← Lib.byteCells_encodeRune, encodeRune_same h]
/-- 'string(b)' of a row of the call's own. -/
theorem conv_own {w : World} {base : Nat} {v : Value} {bs : List UInt8} (h : w.ownsRow base 5 1 v bs.length (Lib.byteCells bs)) :
    (convert 109 9 v).run Tryd.prog w = .ok (.string (strL bs)) w := by
  obtain ⟨A, c, rfl, _, _, hr⟩ := own_form h
  cases A with
  | none =>
    have hn : bs = [] := by
      have := (reads_none hr).1
      exact List.eq_nil_of_length_eq_zero this
    subst hn
    exact run_convert_bytes_nil (P := Tryd.prog) (w := w) 109 5 Tryd.underlying109 Tryd.underlying5 _ c 9 Tryd.underlying9
  | some ad =>
    refine run_convert_bytes_back (P := Tryd.prog) w 109 9 5 ad c bs Tryd.underlying109 Tryd.underlying5 Tryd.underlying9 fun j hj => ?_
    obtain ⟨ad', e1, _, hc⟩ := hr.2 (by omega)
    cases e1
    refine hc j _ ?_
    unfold Lib.byteCells
    rw [List.getElem?_map, List.getElem?_eq_getElem hj]
    rfl
theorem info_u8 : (Tryd.prog.info? 5).map (fun i => (i.zero, i.size, i.bytes)) = some (some (.int .u8 0), 1, 1) := by kernel_rfl

end Go.Proofs.YtdpllfgnppeneaaDoor
