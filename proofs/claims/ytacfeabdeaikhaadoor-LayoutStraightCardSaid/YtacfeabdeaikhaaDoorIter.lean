/-
  THE PROGRAM's ITERATOR OVER A STRING: at a valid string its rounds are the points, each with the index of its first byte.
-/
import Derived.Test.YtacfeabdeaikhaaDoorPlainDec
import Derived.Test.YtacfeabdeaikhaaDoorNext
import Derived.Lib.OthersKept
import Derived.Laws.RangeAny
import Derived.RangeFuncNested
import Derived.RangeFuncBound
import Derived.RangeFuncCalls
import Derived.RangeFuncLeaves
import Derived.RangeFuncBox
import Derived.Shelf.Abstract
import Derived.Shelf.RegionOpen
import Derived.WalkKit
import Derived.OwnWalkIn
import Derived.TacticsInMore
import Derived.LoopNIn
import Derived.LoopIn
import Derived.Test.YtacfeabdeaikhaaDoorProg
namespace Go.Proofs.YtacfeabdeaikhaaDoor
open Go.RowKit Go.Shelf Ru
attribute [local go_sem] Oper.semAt_some
set_option linter.unusedVariables false
set_option linter.unusedSimpArgs false

/-- The points, each with the index of its first byte. -/
def ixs (o : Nat) : List Nat → List (Nat × Nat)
  | [] => []
  | p :: t => (o, p) :: ixs (o + (encL (p : Int)).length) t
theorem ixs_snd (d : List Nat) : ∀ o, (ixs o d).map (·.2) = d := by
  induction d with
  | nil => intro o; rfl
  | cons p t ih => intro o; simp [ixs, ih]
theorem ixs_length (d : List Nat) : ∀ o, (ixs o d).length = d.length := by
  induction d with
  | nil => intro o; rfl
  | cons p t ih => intro o; simp [ixs, ih]
theorem iterPos_at {w : World} {k : Nat} {s : ByteArray} {p : Nat} (h : w.heap[k]? = some (.stringIter s p)) : w.iterPos k = p := by simp [World.iterPos, h]
/-- A step of the iterator turns its own object alone. -/
theorem iterAt_grown (w : World) (k : Nat) (s : ByteArray) (pos : Nat) : w.grownBy (w.iterAt k s pos) (some k) :=
  ⟨rfl, rfl, rfl, by rw [Lib.iterAt_size]; exact Nat.le_refl _, fun j _ hj => Lib.iterAt_other w k j s pos (fun e => hj (by rw [e]))⟩

/-- What comes next. -/
def Nxt (d : List Nat) (pre : List (Nat × Nat)) (x : Nat × Nat) : Prop := ∃ rest, ixs 0 d = pre ++ x :: rest
set_option maxRecDepth 100000 in
set_option maxHeartbeats 2000000 in
theorem scalars1_in (F : Fence) (n : Nat) (hf : F.fn 57) (hro : F.round = none) (hn : 1 ≤ n) (l Bs : Nat) (s : ByteArray) (d : List Nat) (hs : s.size ≤ 9223372036854775807) (hd : points s.data.toList = some d) (J : List (Nat × Nat) → World → Prop)
    (W : World) (hJ : AbidesFrom W.heap.size J)
    (hY : ∀ pre x W1, J pre W1 → Nxt d pre x → YieldAt F (n - 1) Tryd.prog l #[.int .i64 (x.1 : Int), .int .i64 (x.2 : Int)] W1 fun e W' => e = .returned (.bool true) ∧ J (pre ++ [x]) W' ∧ KeepsWalks W1 W')
    (hBs : W.cell? ⟨Bs, 0, none⟩ = some (.string s)) (h0 : J [] W) :
    CallsIn F n Tryd.prog 57 #[.func (.yield l) #[] #[], .pointer (some ⟨Bs, 0, none⟩)] W fun e W' => (∃ v, e = .returned v) ∧ ∃ ys, ys = ixs 0 d ∧ J ys W' := by
  have HSC : Hid (Sc d) := points_sc hd
  have HE : Hid (encS d = s.data.toList) := encS_points hd
  have HJ := Lib.hid hJ; clear hJ hd
  refine callsIn_of_wp Tryd.func57 rfl hf ?_ hro
  simp only [Tryd.ntmps57, List.size_toArray, List.length_cons, List.length_nil, Nat.reduceAdd, Nat.reduceSub, Array.replicate_succ, Array.replicate_zero, List.push_toArray, List.append_toArray, List.nil_append, List.cons_append]
  gi_wp2
  gi_loopw [3, 4] (fun _ _ wr => ∃ (pre : List (Nat × Nat)) (rest : List Nat) (o : Nat), Hid (ixs 0 d = pre ++ ixs o rest) ∧ Hid (Sc rest) ∧ Hid (s.data.toList.drop o = encS rest) ∧ o ≤ s.size ∧ wr.heap[W.heap.size]? = some (.stringIter s o) ∧ J pre wr)
    (fun _ _ wr => s.size - wr.iterPos W.heap.size)
  case atStart =>
    refine ⟨[], d, 0, rfl, HSC, (by show _ = _; rw [HE.out]; rfl), Nat.zero_le _, World.iter_heap W s 0, ?_⟩
    exact HJ.out [] W _ none h0 (World.grownBy_alloc W _ none) (fun r e => by cases e)
  case round =>
    obtain ⟨pre, rest, o, HX, HSR, HD, ho, hit, hJs⟩ := hrel
    have hpos := iterPos_at hit
    cases rest with
    | nil =>
      have he : ¬ o < s.size := by
        have h1 := congrArg List.length HD.out
        rw [List.length_drop, encS_nil, ← Lib.size_eq] at h1
        simp at h1
        omega
      have hnx : ∀ ty, (Instr.next (.pointer (some ⟨W.heap.size, 0, none⟩)) true ty).run Tryd.prog wr = .ok (.tuple #[.bool false]) wr := fun ty => by
        simp [Instr.next, getObj, Sem.run, hit, he]
      have HYS : Hid (ixs 0 d = pre) := by
        show _ = _
        rw [HX.out]
        simp [ixs]
      clear hpos hit
      gi_wp2
      go_end0
      exact ⟨⟨_, rfl⟩, pre, HYS.out.symm, hJs⟩
    | cons p t =>
      have hps := HSR.out p (by simp)
      have hel := (encL_len (p : Int)).1
      have hlt : o + (encL (p : Int)).length ≤ s.size := by
        have h1 := congrArg List.length HD.out
        rw [List.length_drop, encS_cons, ← Lib.size_eq, List.length_append] at h1
        omega
      have hdec : Utf8.decode s o = (p, (encL (p : Int)).length) := by
        rw [← Lib.decodeL_drop, HD.out, encS_cons]
        exact decode_enc hps _
      have hpl := scalar_iff.1 hps
      have hnx : ∀ ty, (Instr.next (.pointer (some ⟨W.heap.size, 0, none⟩)) true ty).run Tryd.prog wr = .ok (.tuple #[.bool true, .int .i64 o, .int .i32 (p : Int)]) (wr.iterAt W.heap.size s (o + (encL (p : Int)).length)) := fun ty => by
        have := Lib.run_next_any_at (P := Tryd.prog) wr W.heap.size s o ty hit (by omega)
        rw [hdec] at this
        exact this
      have hit2 := Lib.iterAt_heap wr W.heap.size s o (o + (encL (p : Int)).length) hit
      have hJ2 : J pre (wr.iterAt W.heap.size s (o + (encL (p : Int)).length)) := HJ.out pre wr _ (some W.heap.size) hJs (iterAt_grown _ _ _ _) (fun r e => by cases e; exact ⟨Nat.le_refl _, _, hit, rfl⟩)
      have HX2 : Hid (ixs 0 d = (pre ++ [(o, p)]) ++ ixs (o + (encL (p : Int)).length) t) := by
        show _ = _
        rw [HX.out]
        simp [ixs]
      have HD2 : Hid (s.data.toList.drop (o + (encL (p : Int)).length) = encS t) := by
        show _ = _
        rw [← List.drop_drop, HD.out, encS_cons, List.drop_left]
      have HSR2 : Hid (Sc t) := fun q hq => HSR.out q (by simp [hq])
      have hprel : Nxt d pre (o, p) := ⟨ixs (o + (encL (p : Int)).length) t, HX.out⟩
      obtain ⟨W1, hW1⟩ : ∃ W1, W1 = wr.iterAt W.heap.size s (o + (encL (p : Int)).length) := ⟨_, rfl⟩
      rw [← hW1] at hnx hit2 hJ2
      obtain ⟨fn, tmps, assign, body, hy, hR⟩ := hY pre (o, p) W1 hJ2 hprel
      dsimp only at hy
      have hw64 : IntKind.i64.wrap (p : Int) = (p : Int) := by rw [IntKind.wrap_i64]; omega
      clear hW1 hit hdec hJs
      gi_wp2
      refine hR.mono ?_
      rintro e W3 ⟨rfl, hJ3, hk3⟩
      have hit3 := hk3.same _ _ hit2 rfl
      gi_wp2
      go_roundw
      case rel => exact ⟨_, t, _, HX2, HSR2, HD2, hlt, hit3, hJ3⟩
      case measure => rw [iterPos_at hit3, hpos]; omega
def encX (x : Nat × Nat) : Array Value := #[.int .i64 (x.1 : Int), .int .i64 (x.2 : Int)]
theorem scalars_next (F : Fence) (n : Nat) (hf : F.fn 57) (hro : F.round = none) (hn : 1 ≤ n) (Bs : Nat) (s : ByteArray) (d : List Nat) (hs : s.size ≤ 9223372036854775807) (hd : points s.data.toList = some d) (w : World)
    (hB : Bs < w.heap.size) (hc : w.cell? ⟨Bs, 0, none⟩ = some (.string s)) :
    SeqNext F n Tryd.prog 57 #[.pointer (some ⟨Bs, 0, none⟩)] encX (Nxt d) (fun ys => ys = ixs 0 d) w := fun l J W hW hJ hY h0 =>
  scalars1_in F n hf hro hn l Bs s d hs hd J W hJ hY ((hW.cell (p := ⟨Bs, 0, none⟩) hB).trans hc) h0
set_option maxHeartbeats 400000 in
theorem scalars_any (s : ByteArray) (w : World) : Calls Tryd.prog 44 #[.string s] w fun e w' => e = .returned (.func (.func 57) #[] #[.pointer (some ⟨w.heap.size, 0, none⟩)]) ∧ w' = w.alloc (.cells #[.string s] 9) := by
  go_enter Tryd.func44, Tryd.ntmps44
  go_wp2
  go_ret
  exact ⟨rfl, rfl⟩
end Go.Proofs.YtacfeabdeaikhaaDoor
