/-
  slices.SortStableFunc of a row of lines, at most 1000 of them.
-/
import Derived.Test.YtdpllfgnppeneaaDoorSortStableH
namespace Go.Proofs.YtdpllfgnppeneaaDoor
open Go.RowKit Srt Col
attribute [local go_sem ↓] Go.wp_at_zero Go.wp_at_succ
set_option linter.unusedVariables false
set_option linter.unusedSimpArgs false

set_option maxHeartbeats 400000 in
theorem ssfH_any (c : Hv → Hv → Int) (hc : IsCmp c) (Q : Hv → Prop) (g : Nat) (cb : Array Value) (blk off cap n : Nat) (d : Nat → Tag Hv) (w : World)
    (eg : ∀ args w, (callFunc g args).run Tryd.prog w = .ok (.enter g args) w) (hcmp : CmpOKH g cb c Q w blk off n) (hQ : ∀ j, j < n → Q (d j).1) (S : SK (fun p : Tag Hv => encH p.1) 5 w blk off n d w) (hn : n ≤ 1000) (h0 : ∀ k, (d k).2 = k) :
    Calls Tryd.prog 70 #[.slice (some ⟨blk, off, none⟩) n cap, .func (.func g) #[] cb] w fun e w' => e = .returned (.tuple #[]) ∧
      ∃ d', SK (fun p : Tag Hv => encH p.1) 5 w blk off n d' w' ∧ PermOn 0 n d d' ∧ SortedOn c d' 0 n := by
  have hc' := Lib.hid (stable_any c hc Q g cb blk off cap n d w w eg hcmp hQ S (by omega) h0)
  clear hcmp hQ S h0
  go_enter Tryd.func70, Tryd.ntmps70
  go_wp2_with fail
  refine hc'.out.mono ?_
  rintro e w1 ⟨rfl, h⟩
  have H := Lib.hid h; clear h
  go_wp2
  go_end0
  exact ⟨rfl, H.out⟩
end Go.Proofs.YtdpllfgnppeneaaDoor
