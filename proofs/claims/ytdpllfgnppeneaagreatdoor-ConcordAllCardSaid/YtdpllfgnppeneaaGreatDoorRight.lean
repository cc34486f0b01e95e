import Derived.Test.YtdpllfgnppeneaaGreatDoorCheck17
namespace Go.Proofs.YtdpllfgnppeneaaGreatDoor
open Go.RowKit
set_option linter.unusedVariables false
set_option linter.unusedSimpArgs false

theorem RowsR.up {w : World} {B B' : Nat} {A : Option Addr} {n : Nat} {L : List (List ByteArray)} (h : RowsR w B A n L) (hB : B ≤ B') : RowsR w B' A n L := by
  obtain ⟨xs, hr, hl, hi⟩ := h
  refine ⟨xs, hr.more hB, hl, fun i l hil => ?_⟩
  obtain ⟨A', n', c', hx', hs⟩ := hi i l hil
  exact ⟨A', n', c', hx', Reads.more hs hB⟩
/-- The sizes that 'right' looks at first. -/
def smallB (S : List (ByteArray × Int)) (nm : ByteArray) (U : List (ByteArray × List Int)) (L : List (List ByteArray)) : Bool :=
  (decide (S.length ≤ 60) && (decide (U.length ≤ 110) && (decide (L.length ≤ 110) && decide (nm.size ≤ 100)))) && (Ok.allTo (fun i => decide ((segName S i).size ≤ 100)) S.length &&
    (Ok.allTo (fun i => decide ((graph U i).size ≤ 100) && decide ((usegs U i).length ≤ 10)) U.length && Ok.allTo (fun i => decide ((L.getD i []).length ≤ 20) && Ok.allTo (fun k => decide ((vari L i k).size ≤ 100)) (L.getD i []).length) L.length))
def rightB (S : List (ByteArray × Int)) (nm : ByteArray) (U : List (ByteArray × List Int)) (L : List (List ByteArray)) : Bool := smallB S nm U L && (ok16 S && ok17 S.length nm U L)

end Go.Proofs.YtdpllfgnppeneaaGreatDoor
