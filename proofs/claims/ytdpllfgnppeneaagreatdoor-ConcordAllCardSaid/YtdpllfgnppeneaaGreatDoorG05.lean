import Derived.RangeFuncFrom
import Derived.RangeFuncOwn
import Derived.RangeFuncBox
import Derived.Test.YtdpllfgnppeneaaGreatDoorG04
import Derived.Lib.OthersKept
import Derived.Laws.RangeAny
import Derived.RangeFuncNested
import Derived.RangeFuncBound
import Derived.RangeFuncCalls
import Derived.RangeFuncLeaves
import Derived.Shelf.Abstract
import Derived.Shelf.RegionOpen
import Derived.WalkKit
import Derived.OwnWalkIn
import Derived.TacticsInMore
import Derived.LoopNIn
import Derived.LoopIn
import Derived.Test.YtdpllfgnppeneaaGreatDoorProg
import Derived.Shelf.Unicode.ValidAny
import Derived.Shelf.Strings.Builder1
import Derived.Shelf.Strings.Builder2
import Derived.Shelf.Strings.OnBuilder
import Derived.Shelf.Small.Wraps
import Derived.Shelf.Strings.BuilderF
import Derived.Shelf.Strings.BuilderK
import Derived.Shelf.Strings.Builder2Cap
import Derived.Shelf.Strings.Prefix
import Derived.Shelf.Bits.Mul64
import Derived.Shelf.Strings.Repeat
import Derived.Shelf.Strings.BuilderCap
import Derived.Shelf.Slices.Turned
import Derived.Ground.Names2Prog
import Derived.Shelf.Slices.ReverseS
import Derived.Shelf.Slices.Clone
import Derived.Shelf.Slices.SearchI
import Derived.Shelf.Slices.Cells
import Derived.Ground.SlgnProg
import Derived.Shelf.SlicesE.Clone
import Derived.OrdersIn
import Derived.TacticsIn
import Derived.OrdersHeld
import Derived.Deep.RegionHeld3
import Derived.Test.YtdpllfgnppeneaaGreatDoorG00
import Derived.Deep.QuietTactic
import Derived.BigQuiet
import Derived.Test.YtdpllfgnppeneaaGreatDoorG03
import Derived.IntWalk
import Derived.Laws.BytesArg
import Derived.Outline
/-
  A RANGE OVER A FUNCTION WHOSE BODY NEVER LEAVES: the round is told that what it is handed is what comes next.
-/
namespace Go.Proofs.YtdpllfgnppeneaaGreatDoor
open Go Go.RowKit
set_option linter.unusedVariables false
variable {F : Fence} {n : Nat} {P : Program}

/-- The iterator's word: if each round that is handed what comes next ('Nx') goes on, and keeps the caller's J, then all come (S). -/
def SeqNext {α : Type} (F : Fence) (n : Nat) (P : Program) (g : Nat) (lb : Array Value) (encs : α → Array Value) (Nx : List α → α → Prop) (S : List α → Prop) (w : World) : Prop :=
  ∀ (l : Nat) (J : List α → World → Prop) (W : World), Below w.heap.size w W → AbidesFrom W.heap.size J →
    (∀ pre x W1, J pre W1 → Nx pre x → YieldAt F (n - 1) P l (encs x) W1 fun e W' => e = .returned (.bool true) ∧ J (pre ++ [x]) W' ∧ KeepsWalks W1 W') →
    J [] W → CallsIn F n P g (#[.func (.yield l) #[] #[]] ++ lb) W fun e W' => (∃ v, e = .returned v) ∧ ∃ xs, S xs ∧ J xs W'
/-- How a round's body ends. -/
def GoesOn (R : World → Prop) (W : World) : Exit → Act → World → Prop
  | .normal, _, W' => KeepsOthers W W' ∧ KeepsWalks W W' ∧ R W'
  | _, _, _ => False
/-- What the loop's own two objects look like between rounds. -/
structure Books (rec : LoopState → Option Code → Loop) (b : Nat) (W : World) : Prop where
  loop : W.heap[b + 1]? = some (.loop (rec .ready none))
  defs : W.heap[b]? = some (.deferred (some []))
theorem Books.lt {rec : LoopState → Option Code → Loop} {b : Nat} {W : World} (h : Books rec b W) : b + 1 < W.heap.size := (Array.getElem?_eq_some_iff.1 h.loop).1
theorem Books.step {rec : LoopState → Option Code → Loop} {b : Nat} {A B : World} {row : Option Nat} (h : Books rec b A) (hg : A.grownBy B row) (hr : ∀ r, row = some r → ∃ o : Obj, A.heap[r]? = some o ∧ o.isWalk = true) : Books rec b B :=
  ⟨(grownBy_keeps hg hr h.loop rfl).trans h.loop, (grownBy_keeps hg hr h.defs rfl).trans h.defs⟩

theorem wpIn_range_next {α : Type} {g : Operand} {ps : Array Tmp} {assign body : Code} {Q : Exit → Act → World → Prop} {a : Act} {w : World}
    (hro : F.round = none) (h1 : 1 ≤ n) {gf : Nat} {lb : Array Value} (hg : a.eval g = .func (.func gf) #[] lb) (hFg : F.fn gf) (eg : ∀ args w, (callFunc gf args).run P w = .ok (.enter gf args) w)
    {encs : α → Array Value} {Nx : List α → α → Prop} {S : List α → Prop} {w0 : World} (hseq : SeqNext F (n - 1) P gf lb encs Nx S w0) (hb0 : Below w0.heap.size w0 w) (hps : ∀ x, (encs x).size = ps.size)
    (I : List α → World → Prop) (hI : OwnFrom w.heap.size I) (h0 : I [] w) (a₁ : α → Act)
    (hassign : ∀ (l : Nat) (x : α) (W : World) (K : Act → World → Prop), K (a₁ x) W →
      assign.wpIn (F.inRound l) (n - 1 - 1) P (Exit.then K (fun _ _ _ => False)) { tmps := (ps.zip (encs x)).foldl (fun t (p, v) => t.setIfInBounds p v) a.tmps, defers := [] } W)
    (hbody : ∀ (l : Nat) (pre : List α) (x : α) (W : World), I pre W → Nx pre x → body.wpIn (F.inRound l) (n - 1 - 1) P (GoesOn (I (pre ++ [x])) W) (a₁ x) W)
    (hdone : ∀ (D : Nat) (xs : List α) (W : World), w.heap.size ≤ D → S xs → I xs W → W.heap[D]? = some (.deferred (some [])) → Q .normal { a with defers := { target := .collected D, args := #[] } :: a.defers } W) :
    (Code.rangeFunc g ps assign body).wpIn F n P Q a w := by
  refine wpIn_rangeFunc fun fn hfn => ?_
  rw [hro]
  obtain ⟨rec, hrec⟩ : ∃ rec : LoopState → Option Code → Loop, rec = fun st pe => { state := st, pending := pe, fn, tmps := a.tmps, params := ps, assign, body, defers := w.heap.size } := ⟨_, rfl⟩
  obtain ⟨W1, hW1⟩ : ∃ W1, W1 = (w.alloc (.deferred (some []))).alloc (.loop (rec .ready none)) := ⟨_, rfl⟩
  have hz1 : W1.heap.size = w.heap.size + 2 := by rw [hW1]; simp
  have hB1 : Books rec w.heap.size W1 := by
    subst hW1
    refine ⟨?_, ?_⟩
    · have := World.alloc_heap_new (w.alloc (.deferred (some []))) (.loop (rec .ready none))
      rwa [World.size_alloc] at this
    · exact (Below.heap_alloc _ _ _ (by simp)).trans (World.alloc_heap_new w _)
  have hI1 : I [] W1 := by subst hW1; exact hI.alloc _ (hI.alloc _ h0)
  have hb1 : Below w0.heap.size w0 W1 := by
    subst hW1
    exact hb0.trans ((((Below.refl _ w).alloc (Nat.le_refl _) _).alloc (by simp) _).mono hb0.size)
  have hwalk : ∀ {A : World} {row : Option Nat}, (∀ r, row = some r → W1.heap.size ≤ r ∧ ∃ o : Obj, A.heap[r]? = some o ∧ o.isWalk = true) → ∀ r, row = some r → w.heap.size ≤ r ∧ ∃ o : Obj, A.heap[r]? = some o ∧ o.isCells = false :=
    fun hr r e => by
      obtain ⟨hB, o, ho, hw⟩ := hr r e
      exact ⟨by omega, o, ho, Obj.not_cells_of_walk hw⟩
  refine ⟨w.heap.size + 1, [{ target := .collected w.heap.size, args := #[] }], W1, { target := .fn (.func gf) lb, args := #[.func (.yield (w.heap.size + 1)) #[] #[]] }, W1, gf,
    #[.func (.yield (w.heap.size + 1)) #[] #[]] ++ lb, W1, ?_, ?_, ?_, ?_, fun _ => h1, ?_⟩
  · rw [hW1, hrec]; exact run_enterLoop_outer _ _ _ _ _
  · simp only [resolve, hg]
    simp [go_sem]
  · intro f' hf'
    simp [Target.leads] at hf'
    subst hf'
    exact hFg
  · simp [invoke, go_sem, eg]
  refine (hseq (w.heap.size + 1) (fun pre W => I pre W ∧ Books rec w.heap.size W) W1 hb1
    (fun s A B row hs hg' hr => ⟨hI s A B row hs.1 hg' (hwalk hr), hs.2.step hg' fun r e => (hr r e).2⟩) ?_ ⟨hI1, hB1⟩).mono ?_
  · rintro pre x W ⟨hi, hbk⟩ hnx
    have hlt := hbk.lt
    have hl := hbk.loop
    have hy := run_yield (P := P) (args := encs x) hl (by rw [hrec]; exact hps x)
    rw [hrec] at hy
    refine ⟨fn, _, assign, body, hy, roundIn_of_wpIn hfn (hassign _ x W _ ⟨_, run_beginRound hl (by rw [hrec]), ?_⟩)⟩
    obtain ⟨Wb, hWb⟩ : ∃ Wb, Wb = W.putObj (w.heap.size + 1) (.loop { rec .ready none with state := .busy }) := ⟨_, rfl⟩
    rw [← hWb]
    have hl2 : Wb.heap[w.heap.size + 1]? = some (.loop { rec .ready none with state := .busy }) := by rw [hWb]; exact World.putObj_heap_same hlt
    have hk2 : Wb.heap[w.heap.size]? = some (.deferred (some [])) := by rw [hWb]; exact (World.putObj_heap_other (by omega)).trans hbk.defs
    have hw2 : KeepsWalks W Wb := by rw [hWb]; exact KeepsWalks.putObj _ hl rfl
    have hi2 : I pre Wb := by rw [hWb]; exact hI.putObj _ hi (by omega) hl rfl
    refine wpIn_mono (hbody _ pre x Wb hi2 hnx) ?_
    rintro e a3 W3 hp
    cases e with
    | normal =>
      obtain ⟨ho3, hk3, hi3⟩ := hp
      have hl3 := ho3.same _ _ hl2 rfl
      have hr := run_endRound (P := P) none hl3
      rw [hrec] at hr
      refine ⟨_, _, hr, rfl, ⟨hI.putObj _ hi3 (by omega) hl3 rfl, ?_, (World.putObj_heap_other (by omega)).trans (ho3.same _ _ hk2 rfl)⟩, (hw2.trans hk3).trans (KeepsWalks.putObj _ hl3 rfl)⟩
      rw [hrec]
      exact World.putObj_heap_same (Array.getElem?_eq_some_iff.1 hl3).1
    | ret => exact hp.elim
    | exit id => exact hp.elim
    | goto t => exact hp.elim
    | panic ch => exact hp.elim
    | outgrown => exact hp.elim
  · rintro e W2 ⟨⟨v, rfl⟩, xs, hS, hi, hbk⟩
    have hr := run_endLoop (P := P) hbk.loop (by rw [hrec]; simp)
    rw [hrec] at hr
    exact ⟨none, _, hr, hdone _ xs _ (Nat.le_refl _) hS (hI.putObj _ hi (by omega) hbk.loop rfl) ((World.putObj_heap_other (by omega)).trans hbk.defs)⟩
end Go.Proofs.YtdpllfgnppeneaaGreatDoor

/-
  THE PROGRAM's ITERATOR OVER A STRING: at a valid string its rounds are the points, each with the index of its first byte.
-/
namespace Go.Proofs.YtdpllfgnppeneaaGreatDoor
open Go.RowKit Go.Shelf Ru
attribute [local go_sem] Oper.semAt_some
set_option linter.unusedVariables false
set_option linter.unusedSimpArgs false

/-- The points, each with the index of its first byte. -/
def ixs (o : Nat) : List Nat → List (Nat × Nat)
  | [] => []
  | p :: t => (o, p) :: ixs (o + (encL (p : Int)).length) t
theorem ixs_snd (d : List Nat) : ∀ o, (ixs o d).map (·.2) = d := by
  induction d with
  | nil => intro o; rfl
  | cons p t ih => intro o; simp [ixs, ih]
theorem ixs_length (d : List Nat) : ∀ o, (ixs o d).length = d.length := by
  induction d with
  | nil => intro o; rfl
  | cons p t ih => intro o; simp [ixs, ih]
theorem iterPos_at {w : World} {k : Nat} {s : ByteArray} {p : Nat} (h : w.heap[k]? = some (.stringIter s p)) : w.iterPos k = p := by simp [World.iterPos, h]
/-- A step of the iterator turns its own object alone. -/
theorem iterAt_grown (w : World) (k : Nat) (s : ByteArray) (pos : Nat) : w.grownBy (w.iterAt k s pos) (some k) :=
  ⟨rfl, rfl, rfl, by rw [Lib.iterAt_size]; exact Nat.le_refl _, fun j _ hj => Lib.iterAt_other w k j s pos (fun e => hj (by rw [e]))⟩

/-- What comes next. -/
def Nxt (d : List Nat) (pre : List (Nat × Nat)) (x : Nat × Nat) : Prop := ∃ rest, ixs 0 d = pre ++ x :: rest
set_option maxRecDepth 100000 in
set_option maxHeartbeats 2000000 in
theorem scalars1_in (F : Fence) (n : Nat) (hf : F.fn 96) (hro : F.round = none) (hn : 1 ≤ n) (l Bs : Nat) (s : ByteArray) (d : List Nat) (hs : s.size ≤ 9223372036854775807) (hd : points s.data.toList = some d) (J : List (Nat × Nat) → World → Prop)
    (W : World) (hJ : AbidesFrom W.heap.size J)
    (hY : ∀ pre x W1, J pre W1 → Nxt d pre x → YieldAt F (n - 1) Tryz.prog l #[.int .i64 (x.1 : Int), .int .i64 (x.2 : Int)] W1 fun e W' => e = .returned (.bool true) ∧ J (pre ++ [x]) W' ∧ KeepsWalks W1 W')
    (hBs : W.cell? ⟨Bs, 0, none⟩ = some (.string s)) (h0 : J [] W) :
    CallsIn F n Tryz.prog 96 #[.func (.yield l) #[] #[], .pointer (some ⟨Bs, 0, none⟩)] W fun e W' => (∃ v, e = .returned v) ∧ ∃ ys, ys = ixs 0 d ∧ J ys W' := by
  have HSC : Hid (Sc d) := points_sc hd
  have HE : Hid (encS d = s.data.toList) := encS_points hd
  have HJ := Lib.hid hJ; clear hJ hd
  refine callsIn_of_wp Tryz.func96 rfl hf ?_ hro
  simp only [Tryz.ntmps96, List.size_toArray, List.length_cons, List.length_nil, Nat.reduceAdd, Nat.reduceSub, Array.replicate_succ, Array.replicate_zero, List.push_toArray, List.append_toArray, List.nil_append, List.cons_append]
  gi_wp2
  gi_loopw [3, 4] (fun _ _ wr => ∃ (pre : List (Nat × Nat)) (rest : List Nat) (o : Nat), Hid (ixs 0 d = pre ++ ixs o rest) ∧ Hid (Sc rest) ∧ Hid (s.data.toList.drop o = encS rest) ∧ o ≤ s.size ∧ wr.heap[W.heap.size]? = some (.stringIter s o) ∧ J pre wr)
    (fun _ _ wr => s.size - wr.iterPos W.heap.size)
  case atStart =>
    refine ⟨[], d, 0, rfl, HSC, (by show _ = _; rw [HE.out]; rfl), Nat.zero_le _, World.iter_heap W s 0, ?_⟩
    exact HJ.out [] W _ none h0 (World.grownBy_alloc W _ none) (fun r e => by cases e)
  case round =>
    obtain ⟨pre, rest, o, HX, HSR, HD, ho, hit, hJs⟩ := hrel
    have hpos := iterPos_at hit
    cases rest with
    | nil =>
      have he : ¬ o < s.size := by
        have h1 := congrArg List.length HD.out
        rw [List.length_drop, encS_nil, ← Lib.size_eq] at h1
        simp at h1
        omega
      have hnx : ∀ ty, (Instr.next (.pointer (some ⟨W.heap.size, 0, none⟩)) true ty).run Tryz.prog wr = .ok (.tuple #[.bool false]) wr := fun ty => by
        simp [Instr.next, getObj, Sem.run, hit, he]
      have HYS : Hid (ixs 0 d = pre) := by
        show _ = _
        rw [HX.out]
        simp [ixs]
      clear hpos hit
      gi_wp2
      go_end0
      exact ⟨⟨_, rfl⟩, pre, HYS.out.symm, hJs⟩
    | cons p t =>
      have hps := HSR.out p (by simp)
      have hel := (encL_len (p : Int)).1
      have hlt : o + (encL (p : Int)).length ≤ s.size := by
        have h1 := congrArg List.length HD.out
        rw [List.length_drop, encS_cons, ← Lib.size_eq, List.length_append] at h1
        omega
      have hdec : Utf8.decode s o = (p, (encL (p : Int)).length) := by
        rw [← Lib.decodeL_drop, HD.out, encS_cons]
        exact decode_enc hps _
      have hpl := scalar_iff.1 hps
      have hnx : ∀ ty, (Instr.next (.pointer (some ⟨W.heap.size, 0, none⟩)) true ty).run Tryz.prog wr = .ok (.tuple #[.bool true, .int .i64 o, .int .i32 (p : Int)]) (wr.iterAt W.heap.size s (o + (encL (p : Int)).length)) := fun ty => by
        have := Lib.run_next_any_at (P := Tryz.prog) wr W.heap.size s o ty hit (by omega)
        rw [hdec] at this
        exact this
      have hit2 := Lib.iterAt_heap wr W.heap.size s o (o + (encL (p : Int)).length) hit
      have hJ2 : J pre (wr.iterAt W.heap.size s (o + (encL (p : Int)).length)) := HJ.out pre wr _ (some W.heap.size) hJs (iterAt_grown _ _ _ _) (fun r e => by cases e; exact ⟨Nat.le_refl _, _, hit, rfl⟩)
      have HX2 : Hid (ixs 0 d = (pre ++ [(o, p)]) ++ ixs (o + (encL (p : Int)).length) t) := by
        show _ = _
        rw [HX.out]
        simp [ixs]
      have HD2 : Hid (s.data.toList.drop (o + (encL (p : Int)).length) = encS t) := by
        show _ = _
        rw [← List.drop_drop, HD.out, encS_cons, List.drop_left]
      have HSR2 : Hid (Sc t) := fun q hq => HSR.out q (by simp [hq])
      have hprel : Nxt d pre (o, p) := ⟨ixs (o + (encL (p : Int)).length) t, HX.out⟩
      obtain ⟨W1, hW1⟩ : ∃ W1, W1 = wr.iterAt W.heap.size s (o + (encL (p : Int)).length) := ⟨_, rfl⟩
      rw [← hW1] at hnx hit2 hJ2
      obtain ⟨fn, tmps, assign, body, hy, hR⟩ := hY pre (o, p) W1 hJ2 hprel
      dsimp only at hy
      have hw64 : IntKind.i64.wrap (p : Int) = (p : Int) := by rw [IntKind.wrap_i64]; omega
      clear hW1 hit hdec hJs
      gi_wp2
      refine hR.mono ?_
      rintro e W3 ⟨rfl, hJ3, hk3⟩
      have hit3 := hk3.same _ _ hit2 rfl
      gi_wp2
      go_roundw
      case rel => exact ⟨_, t, _, HX2, HSR2, HD2, hlt, hit3, hJ3⟩
      case measure => rw [iterPos_at hit3, hpos]; omega
def encX (x : Nat × Nat) : Array Value := #[.int .i64 (x.1 : Int), .int .i64 (x.2 : Int)]
theorem scalars_next (F : Fence) (n : Nat) (hf : F.fn 96) (hro : F.round = none) (hn : 1 ≤ n) (Bs : Nat) (s : ByteArray) (d : List Nat) (hs : s.size ≤ 9223372036854775807) (hd : points s.data.toList = some d) (w : World)
    (hB : Bs < w.heap.size) (hc : w.cell? ⟨Bs, 0, none⟩ = some (.string s)) :
    SeqNext F n Tryz.prog 96 #[.pointer (some ⟨Bs, 0, none⟩)] encX (Nxt d) (fun ys => ys = ixs 0 d) w := fun l J W hW hJ hY h0 =>
  scalars1_in F n hf hro hn l Bs s d hs hd J W hJ hY ((hW.cell (p := ⟨Bs, 0, none⟩) hB).trans hc) h0
set_option maxHeartbeats 400000 in
theorem scalars_any (s : ByteArray) (w : World) : Calls Tryz.prog 79 #[.string s] w fun e w' => e = .returned (.func (.func 96) #[] #[.pointer (some ⟨w.heap.size, 0, none⟩)]) ∧ w' = w.alloc (.cells #[.string s] 9) := by
  go_enter Tryz.func79, Tryz.ntmps79
  go_wp2
  go_ret
  exact ⟨rfl, rfl⟩
end Go.Proofs.YtdpllfgnppeneaaGreatDoor

/-
  DERIVED: THE SHELF's CONTRACTS AT THIS DUMP, IN PLAIN WORDS (tools/lay-plain.mjs out of 'TryzShelf.lean', which tools/lay-shelf.mjs wrote): THE SAME DECLARATIONS UNDER THE SAME NAMES: 'import', 'namespace', 'open', 'def', 'theorem' AND NOTHING ELSE: no command of the shelf's: FOR A HAND-IN. Each laying: the table of numbers ('.._ren') and one theorem, a field a fact of the dump's own or the kernel's comparison; each contract: ONE APPLICATION.
-/
namespace Go.Proofs
open Go.Shelf
def Tryz.lays156_ren : Go.Shelf.Ren := ⟨fun | 156 => 33 | 165 => 58 | 166 => 59 | 169 => 60 | 240 => 81 | 241 => 82 | 276 => 97 | 277 => 98 | n => n, fun | 31 => 33 | 9 => 9 | 3 => 3 | 4 => 4 | 0 => 0 | 20 => 20 | 72 => 102 | 76 => 106 | 70 => 99 | 37 => 100 | 75 => 105 | 127 => 128 | 164 => 152 | 5 => 5 | 80 => 108 | n => n, fun | n => n⟩
theorem Tryz.lays156 : Go.Proofs.Lays.n156 Tryz.prog Tryz.lays156_ren := {
  mixed := by kernel_rfl
  f156 := Tryz.func33.trans (congrArg some (by kernel_rfl))
  f165 := Tryz.func58.trans (congrArg some (by kernel_rfl))
  f166 := Tryz.func59.trans (congrArg some (by kernel_rfl))
  f169 := Tryz.func60.trans (congrArg some (by kernel_rfl))
  f240 := Tryz.func81.trans (congrArg some (by kernel_rfl))
  f241 := Tryz.func82.trans (congrArg some (by kernel_rfl))
  f276 := Tryz.func97.trans (congrArg some (by kernel_rfl))
  f277 := Tryz.func98.trans (congrArg some (by kernel_rfl))
  t0 := Tryz.underlying0
  a0 := Tryz.isAgg0
  z0 := Tryz.sizeOf0
  v0 := Tryz.zeroValue0
  t3 := Tryz.underlying3
  a3 := Tryz.isAgg3
  z3 := Tryz.sizeOf3
  v3 := Tryz.zeroValue3
  t4 := Tryz.underlying4
  a4 := Tryz.isAgg4
  z4 := Tryz.sizeOf4
  v4 := Tryz.zeroValue4
  t9 := Tryz.underlying9
  a9 := Tryz.isAgg9
  z9 := Tryz.sizeOf9
  v9 := Tryz.zeroValue9
  t20 := Tryz.underlying20
  a20 := Tryz.isAgg20
  z20 := Tryz.sizeOf20
  v20 := Tryz.zeroValue20
  t31 := Tryz.underlying33
  a31 := Tryz.isAgg33
  z31 := Tryz.sizeOf33
  v31 := Tryz.zeroValue33
  t37 := Tryz.underlying100
  a37 := Tryz.isAgg100
  z37 := Tryz.sizeOf100
  v37 := Tryz.zeroValue100
  t70 := Tryz.underlying99
  a70 := Tryz.isAgg99
  z70 := Tryz.sizeOf99
  v70 := Tryz.zeroValue99
  t72 := Tryz.underlying102
  a72 := Tryz.isAgg102
  z72 := Tryz.sizeOf102
  v72 := Tryz.zeroValue102
  t75 := Tryz.underlying105
  a75 := Tryz.isAgg105
  z75 := Tryz.sizeOf105
  v75 := Tryz.zeroValue105
  t76 := Tryz.underlying106
  a76 := Tryz.isAgg106
  z76 := Tryz.sizeOf106
  v76 := Tryz.zeroValue106
  t127 := Tryz.underlying128
  a127 := Tryz.isAgg128
  z127 := Tryz.sizeOf128
  v127 := Tryz.zeroValue128
  t164 := Tryz.underlying152
  a164 := Tryz.isAgg152
  z164 := Tryz.sizeOf152
  v164 := Tryz.zeroValue152 }
theorem Tryz.Builder_Extra_156 : Builder.Extra Tryz.prog Tryz.lays156_ren := {
  sizeBuilder := by kernel_rfl
  liesBuilder := by kernel_rfl
  t5 := Tryz.underlying5
  a5 := Tryz.isAgg5
  z5 := Tryz.sizeOf5
  v5 := Tryz.zeroValue5
  infoByte := by kernel_rfl
  cellsByte := by kernel_rfl
  sizeByte := by kernel_rfl
  neB5 := by decide }
open Go.RowKit in
/-- No element: the empty string; the world is as it was. (Whatever the slice's address and capacity: a nil slice too.) (LAID: no walk: one application.) -/
theorem Tryz.strings_Join_none (a : Option Addr) (c : Nat) (sep : ByteArray) (w : World) :
    Calls Tryz.prog 33 #[.slice a 0 c, .string sep] w fun e w' => e = .returned (.string ⟨#[]⟩) ∧ w' = w := Any.strings_Join_none Tryz.lays156 Tryz.Builder_Extra_156 a c sep w
open Go.RowKit in
/-- strings.Join: "Join concatenates the elements of its first argument to create a single string. The separator string sep is placed between elements in the resulting string.": HOWEVER MANY ELEMENTS. Below the heap's end the world is as it was. (LAID: no walk: one application.) -/
theorem Tryz.strings_Join (bk o c : Nat) (xs : List ByteArray) (sep : ByteArray) (w : World) (hcells : ∀ (j : Nat) x, xs[j]? = some x → w.cell? ⟨bk, o + j, none⟩ = some (.string x)) (hbk : bk < w.heap.size) (hN : xs.length ≤ 140737488355328) (hcap : xs.length ≤ c) (hlen : (Lib.join (xs.map (·.data.toList)) sep.data.toList).length ≤ 140737488355328) :
    Calls Tryz.prog 33 #[.slice (some ⟨bk, o, none⟩) xs.length c, .string sep] w fun e w' => e = .returned (.string ⟨(Lib.join (xs.map (·.data.toList)) sep.data.toList).toArray⟩) ∧ Below w.heap.size w w' := Any.strings_Join Tryz.lays156 Tryz.Builder_Extra_156 bk o c xs sep w hcells hbk hN hcap hlen
def Tryz.lays122_ren : Go.Shelf.Ren := ⟨fun | 122 => 55 | 215 => 77 | n => n, fun | 3 => 3 | 4 => 4 | n => n, fun | n => n⟩
theorem Tryz.lays122 : Go.Proofs.Lays.n122 Tryz.prog Tryz.lays122_ren := {
  mixed := by kernel_rfl
  f122 := Tryz.func55.trans (congrArg some (by kernel_rfl))
  f215 := Tryz.func77.trans (congrArg some (by kernel_rfl))
  t3 := Tryz.underlying3
  a3 := Tryz.isAgg3
  z3 := Tryz.sizeOf3
  v3 := Tryz.zeroValue3
  t4 := Tryz.underlying4
  a4 := Tryz.isAgg4
  z4 := Tryz.sizeOf4
  v4 := Tryz.zeroValue4 }
open Go.RowKit in
/-- cmp.Compare at int: "Compare returns -1 if x is less than y, 0 if x equals y, +1 if x is greater than y.": IT RETURNS 'Lib.compareInt x y'; the world is as it was. (LAID: no walk: one application.) -/
theorem Tryz.cmp_Compare_int (x y : Int) (w : World) :
    Calls Tryz.prog 55 #[.int .i64 x, .int .i64 y] w fun e w' => e = .returned (.int .i64 (Lib.compareInt x y)) ∧ w' = w := Any.cmp_Compare_int Tryz.lays122 x y w
def Tryz.lays99_ren : Go.Shelf.Ren := ⟨fun | 99 => 62 | 206 => 85 | n => n, fun | 9 => 9 | 4 => 4 | 3 => 3 | n => n, fun | n => n⟩
theorem Tryz.lays99 : Go.Proofs.Lays.n99 Tryz.prog Tryz.lays99_ren := {
  mixed := by kernel_rfl
  f99 := Tryz.func62.trans (congrArg some (by kernel_rfl))
  f206 := Tryz.func85.trans (congrArg some (by kernel_rfl))
  t3 := Tryz.underlying3
  a3 := Tryz.isAgg3
  z3 := Tryz.sizeOf3
  v3 := Tryz.zeroValue3
  t4 := Tryz.underlying4
  a4 := Tryz.isAgg4
  z4 := Tryz.sizeOf4
  v4 := Tryz.zeroValue4
  t9 := Tryz.underlying9
  a9 := Tryz.isAgg9
  z9 := Tryz.sizeOf9
  v9 := Tryz.zeroValue9 }
open Go.RowKit Go.Lib in
/-- strings.HasPrefix: "HasPrefix reports whether the string s begins with prefix.": IT RETURNS 'Lib.hasPrefix s prefix'; the world is as it was. (LAID: no walk: one application.) -/
theorem Tryz.strings_HasPrefix (s p : ByteArray) (w : World) :
    Calls Tryz.prog 62 #[.string s, .string p] w fun e w' => e = .returned (.bool (Lib.hasPrefix s.data.toList p.data.toList)) ∧ w' = w := Any.strings_HasPrefix Tryz.lays99 s p w
def Tryz.lays105_ren : Go.Shelf.Ren := ⟨fun | 105 => 34 | 212 => 61 | 99 => 62 | 165 => 58 | 166 => 59 | 170 => 63 | 169 => 60 | 263 => 83 | 264 => 84 | 206 => 85 | 240 => 81 | 241 => 82 | 276 => 97 | 277 => 98 | n => n, fun | 9 => 9 | 3 => 3 | 4 => 4 | 20 => 20 | 0 => 0 | 46 => 109 | 109 => 110 | 5 => 5 | 72 => 102 | 76 => 106 | 51 => 129 | 146 => 130 | 53 => 132 | 148 => 133 | 70 => 99 | 37 => 100 | 75 => 105 | 127 => 128 | 164 => 152 | 80 => 108 | n => n, fun | n => n⟩
theorem Tryz.lays105 : Go.Proofs.Lays.n105 Tryz.prog Tryz.lays105_ren := {
  mixed := by kernel_rfl
  f99 := Tryz.func62.trans (congrArg some (by kernel_rfl))
  f105 := Tryz.func34.trans (congrArg some (by kernel_rfl))
  f165 := Tryz.func58.trans (congrArg some (by kernel_rfl))
  f166 := Tryz.func59.trans (congrArg some (by kernel_rfl))
  f169 := Tryz.func60.trans (congrArg some (by kernel_rfl))
  f170 := Tryz.func63.trans (congrArg some (by kernel_rfl))
  f206 := Tryz.func85.trans (congrArg some (by kernel_rfl))
  f212 := Tryz.func61.trans (congrArg some (by kernel_rfl))
  f240 := Tryz.func81.trans (congrArg some (by kernel_rfl))
  f241 := Tryz.func82.trans (congrArg some (by kernel_rfl))
  f263 := Tryz.func83.trans (congrArg some (by kernel_rfl))
  f264 := Tryz.func84.trans (congrArg some (by kernel_rfl))
  f276 := Tryz.func97.trans (congrArg some (by kernel_rfl))
  f277 := Tryz.func98.trans (congrArg some (by kernel_rfl))
  t0 := Tryz.underlying0
  a0 := Tryz.isAgg0
  z0 := Tryz.sizeOf0
  v0 := Tryz.zeroValue0
  t3 := Tryz.underlying3
  a3 := Tryz.isAgg3
  z3 := Tryz.sizeOf3
  v3 := Tryz.zeroValue3
  t4 := Tryz.underlying4
  a4 := Tryz.isAgg4
  z4 := Tryz.sizeOf4
  v4 := Tryz.zeroValue4
  t5 := Tryz.underlying5
  a5 := Tryz.isAgg5
  z5 := Tryz.sizeOf5
  v5 := Tryz.zeroValue5
  t9 := Tryz.underlying9
  a9 := Tryz.isAgg9
  z9 := Tryz.sizeOf9
  v9 := Tryz.zeroValue9
  t20 := Tryz.underlying20
  a20 := Tryz.isAgg20
  z20 := Tryz.sizeOf20
  v20 := Tryz.zeroValue20
  t37 := Tryz.underlying100
  a37 := Tryz.isAgg100
  z37 := Tryz.sizeOf100
  v37 := Tryz.zeroValue100
  t46 := Tryz.underlying109
  a46 := Tryz.isAgg109
  z46 := Tryz.sizeOf109
  v46 := Tryz.zeroValue109
  t51 := Tryz.underlying129
  a51 := Tryz.isAgg129
  z51 := Tryz.sizeOf129
  v51 := Tryz.zeroValue129
  t53 := Tryz.underlying132
  a53 := Tryz.isAgg132
  z53 := Tryz.sizeOf132
  v53 := Tryz.zeroValue132
  t70 := Tryz.underlying99
  a70 := Tryz.isAgg99
  z70 := Tryz.sizeOf99
  v70 := Tryz.zeroValue99
  t72 := Tryz.underlying102
  a72 := Tryz.isAgg102
  z72 := Tryz.sizeOf102
  v72 := Tryz.zeroValue102
  t75 := Tryz.underlying105
  a75 := Tryz.isAgg105
  z75 := Tryz.sizeOf105
  v75 := Tryz.zeroValue105
  t76 := Tryz.underlying106
  a76 := Tryz.isAgg106
  z76 := Tryz.sizeOf106
  v76 := Tryz.zeroValue106
  t109 := Tryz.underlying110
  a109 := Tryz.isAgg110
  z109 := Tryz.sizeOf110
  v109 := Tryz.zeroValue110
  t127 := Tryz.underlying128
  a127 := Tryz.isAgg128
  z127 := Tryz.sizeOf128
  v127 := Tryz.zeroValue128
  t146 := Tryz.underlying130
  a146 := Tryz.isAgg130
  z146 := Tryz.sizeOf130
  v146 := Tryz.zeroValue130
  t148 := Tryz.underlying133
  a148 := Tryz.isAgg133
  z148 := Tryz.sizeOf133
  v148 := Tryz.zeroValue133
  t164 := Tryz.underlying152
  a164 := Tryz.isAgg152
  z164 := Tryz.sizeOf152
  v164 := Tryz.zeroValue152 }
theorem Tryz.Builder_Extra_105 : Builder.Extra Tryz.prog Tryz.lays105_ren := {
  sizeBuilder := by kernel_rfl
  liesBuilder := by kernel_rfl
  t5 := Tryz.underlying5
  a5 := Tryz.isAgg5
  z5 := Tryz.sizeOf5
  v5 := Tryz.zeroValue5
  infoByte := by kernel_rfl
  cellsByte := by kernel_rfl
  sizeByte := by kernel_rfl
  neB5 := by decide }
open Go.RowKit Go.Lib in
/-- THE MAIN CASE: at least two copies of a string that is not empty. (LAID: no walk: one application.) -/
theorem Tryz.strings_Repeat_main (s : ByteArray) (c : Nat) (w : World) (hc2 : 2 ≤ c) (hc : c ≤ 9223372036854775807) (hlen : s.size * c ≤ 140737488355328) (h0 : 0 < s.size) :
    Calls Tryz.prog 34 #[.string s, .int .i64 c] w fun e w' => e = .returned (.string ⟨(Lib.repeatL s.data.toList c).toArray⟩) ∧ Below w.heap.size w w' := Any.strings_Repeat_main Tryz.lays105 Tryz.Builder_Extra_105 s c w hc2 hc hlen h0
open Go.RowKit Go.Lib in
theorem Tryz.strings_Repeat_zero (s : ByteArray) (w : World) :
    Calls Tryz.prog 34 #[.string s, .int .i64 0] w fun e w' => e = .returned (.string ⟨#[]⟩) ∧ w' = w := Any.strings_Repeat_zero Tryz.lays105 s w
open Go.RowKit Go.Lib in
theorem Tryz.strings_Repeat_one (s : ByteArray) (w : World) :
    Calls Tryz.prog 34 #[.string s, .int .i64 1] w fun e w' => e = .returned (.string s) ∧ w' = w := Any.strings_Repeat_one Tryz.lays105 s w
open Go.RowKit Go.Lib in
/-- Copies of the empty string. (LAID: no walk: one application.) -/
theorem Tryz.strings_Repeat_empty (s : ByteArray) (c : Nat) (w : World) (hc2 : 2 ≤ c) (hc : c ≤ 9223372036854775807) (h0 : s.size = 0) :
    Calls Tryz.prog 34 #[.string s, .int .i64 c] w fun e w' => e = .returned (.string ⟨#[]⟩) ∧ w' = w := Any.strings_Repeat_empty Tryz.lays105 s c w hc2 hc h0
open Go.RowKit Go.Lib in
/-- count < 0: "It panics if count is negative". (LAID: no walk: one application.) -/
theorem Tryz.strings_Repeat_negative (s : ByteArray) (c : Int) (w : World) (hc : c < 0) :
    Calls Tryz.prog 34 #[.string s, .int .i64 c] w fun e w' => e = .panicked [{ v := repeatPanic Tryz.lays105_ren "strings: negative Repeat count", recovered := false }] ∧ w' = w := Any.strings_Repeat_negative Tryz.lays105 s c w hc
open Go.RowKit Go.Lib in
/-- len(s) * count is no int: ".. or if the result of (len(s) * count) overflows". (LAID: no walk: one application.) -/
theorem Tryz.strings_Repeat_overflow (s : ByteArray) (c : Nat) (w : World) (hc : c ≤ 9223372036854775807) (hs : s.size ≤ 9223372036854775807) (hbig : 9223372036854775807 < s.size * c) :
    Calls Tryz.prog 34 #[.string s, .int .i64 c] w fun e w' => e = .panicked [{ v := repeatPanic Tryz.lays105_ren "strings: Repeat output length overflow", recovered := false }] ∧ w' = w := Any.strings_Repeat_overflow Tryz.lays105 s c w hc hs hbig
open Go.RowKit Go.Lib in
/-- **strings.Repeat: count ≥ 0, the result within one allocation: count copies of s.** (LAID: no walk: one application.) -/
theorem Tryz.strings_Repeat (s : ByteArray) (c : Nat) (w : World) (hc : c ≤ 9223372036854775807) (hlen : s.size * c ≤ 140737488355328) :
    Calls Tryz.prog 34 #[.string s, .int .i64 c] w fun e w' => e = .returned (.string ⟨(Lib.repeatL s.data.toList c).toArray⟩) ∧ Below w.heap.size w w' := Any.strings_Repeat Tryz.lays105 Tryz.Builder_Extra_105 s c w hc hlen
def Tryz.lays108_ren : Go.Shelf.Ren := ⟨fun | 108 => 21 | n => n, fun | 28 => 22 | 3 => 3 | 0 => 0 | 4 => 4 | n => n, fun | n => n⟩
theorem Tryz.lays108 : Go.Proofs.Lays.n108 Tryz.prog Tryz.lays108_ren := {
  mixed := by kernel_rfl
  f108 := Tryz.func21.trans (congrArg some (by kernel_rfl))
  t0 := Tryz.underlying0
  a0 := Tryz.isAgg0
  z0 := Tryz.sizeOf0
  v0 := Tryz.zeroValue0
  t3 := Tryz.underlying3
  a3 := Tryz.isAgg3
  z3 := Tryz.sizeOf3
  v3 := Tryz.zeroValue3
  t4 := Tryz.underlying4
  a4 := Tryz.isAgg4
  z4 := Tryz.sizeOf4
  v4 := Tryz.zeroValue4
  t28 := Tryz.underlying22
  a28 := Tryz.isAgg22
  z28 := Tryz.sizeOf22
  v28 := Tryz.zeroValue22 }
open Go.Lib in
/-- slices.Index at []int: "Index returns the index of the first occurrence of v in s, or -1 if not present.": IT RETURNS 'Lib.idxOf (the elements) v'; the world is as it was. 'zs': what the cells behind the slice's address hold (its spare capacity too, if you have it); 'zs.take n': its elements. (LAID: no walk: one application.) -/
theorem Tryz.slices_Index_int (b off n c : Nat) (zs : List Int) (x : Int) (w : World) (hz : n ≤ zs.length) (hbig : n ≤ 9223372036854775807) (hc : ∀ j, j < zs.length → w.cell? ⟨b, off + j, none⟩ = some (.int .i64 (zs.getD j 0))) :
    Calls Tryz.prog 21 #[.slice (some ⟨b, off, none⟩) n c, .int .i64 x] w fun e w' => e = .returned (.int .i64 (Lib.idxOf (zs.take n) x)) ∧ w' = w := Any.slices_Index_int Tryz.lays108 b off n c zs x w hz hbig hc
open Go.Lib in
/-- The same at a slice of length 0, a nil one too: no cell is known, none is asked for. (LAID: no walk: one application.) -/
theorem Tryz.slices_Index_int_empty (a : Option Addr) (c : Nat) (x : Int) (w : World) :
    Calls Tryz.prog 21 #[.slice a 0 c, .int .i64 x] w fun e w' => e = .returned (.int .i64 (Lib.idxOf [] x)) ∧ w' = w := Any.slices_Index_int_empty Tryz.lays108 a c x w
def Tryz.laysNm217_ren : Go.Shelf.Ren := ⟨fun | 17 => 52 | n => n, fun | 24 => 33 | 9 => 9 | 3 => 3 | 4 => 4 | 0 => 0 | n => n, fun | n => n⟩
theorem Tryz.laysNm217 : Go.Proofs.Lays2.n17 Tryz.prog Tryz.laysNm217_ren := {
  mixed := by kernel_rfl
  f17 := Tryz.func52.trans (congrArg some (by kernel_rfl))
  t0 := Tryz.underlying0
  a0 := Tryz.isAgg0
  z0 := Tryz.sizeOf0
  v0 := Tryz.zeroValue0
  t3 := Tryz.underlying3
  a3 := Tryz.isAgg3
  z3 := Tryz.sizeOf3
  v3 := Tryz.zeroValue3
  t4 := Tryz.underlying4
  a4 := Tryz.isAgg4
  z4 := Tryz.sizeOf4
  v4 := Tryz.zeroValue4
  t9 := Tryz.underlying9
  a9 := Tryz.isAgg9
  z9 := Tryz.sizeOf9
  v9 := Tryz.zeroValue9
  t24 := Tryz.underlying33
  a24 := Tryz.isAgg33
  z24 := Tryz.sizeOf33
  v24 := Tryz.zeroValue33 }
open Go.RowKit Go.Lib Go.Sort in
/-- slices.Reverse at []string, over an array: Go's loop from the two ends inward is walked; it makes 'Sort.reverseLoop 0 (len - 1)', which is 'Array.reverse' (Derived/Lib/SlicesMore.lean). (LAID: no walk: one application.) -/
theorem Tryz.slices_Reverse_string_arr (blk off cap : Nat) (d : Array (List UInt8)) (w : World) (hH : Holds encStr w blk off d) (hsz : d.size ≤ 9223372036854775807) :
    Calls Tryz.prog 52 #[.slice (some ⟨blk, off, none⟩) d.size cap] w fun e w' => e = .returned (.tuple #[]) ∧ ∃ n, w' = putRow encStr (Sort.ahead w n) blk off d.reverse := Any.slices_Reverse_string_arr Tryz.laysNm217 blk off cap d w hH hsz
open Go.RowKit Go.Lib Go.Sort in
/-- slices.Reverse at []string: "Reverse reverses the elements of the slice in place.": THE SLICE's CELLS HOLD 'zs.reverse' BEHIND THE CALL; all else is as it was, but for the count of draws (the exchange 's[i], s[j] = s[j], s[i]' draws its order, once a round). IN THE WORDS OF slices.Sort's CONTRACT: 'Holds': the cells hold zs and none is frozen; 'putRow': the world with those cells holding another array. A slice of length 0 that is not nil is among them ('zs = []'); nil: '.._nil'. (LAID: no walk: one application.) -/
theorem Tryz.slices_Reverse_string (blk off cap : Nat) (zs : List (List UInt8)) (w : World) (hH : Holds encStr w blk off zs.toArray) (hsz : zs.length ≤ 9223372036854775807) :
    Calls Tryz.prog 52 #[.slice (some ⟨blk, off, none⟩) zs.length cap] w fun e w' => e = .returned (.tuple #[]) ∧ ∃ n, w' = putRow encStr (Sort.ahead w n) blk off zs.reverse.toArray := Any.slices_Reverse_string Tryz.laysNm217 blk off cap zs w hH hsz
open Go.RowKit Go.Lib Go.Sort in
/-- The same at a slice of length 0, a nil one too: nothing is read, nothing written, nothing drawn. (LAID: no walk: one application.) -/
theorem Tryz.slices_Reverse_string_empty (a : Option Addr) (cap : Nat) (w : World) :
    Calls Tryz.prog 52 #[.slice a 0 cap] w fun e w' => e = .returned (.tuple #[]) ∧ w' = w := Any.slices_Reverse_string_empty Tryz.laysNm217 a cap w
def Tryz.laysNm216_ren : Go.Shelf.Ren := ⟨fun | 16 => 51 | n => n, fun | 24 => 33 | 9 => 9 | 4 => 4 | n => n, fun | n => n⟩
theorem Tryz.laysNm216 : Go.Proofs.Lays2.n16 Tryz.prog Tryz.laysNm216_ren := {
  mixed := by kernel_rfl
  f16 := Tryz.func51.trans (congrArg some (by kernel_rfl))
  t4 := Tryz.underlying4
  a4 := Tryz.isAgg4
  z4 := Tryz.sizeOf4
  v4 := Tryz.zeroValue4
  t9 := Tryz.underlying9
  a9 := Tryz.isAgg9
  z9 := Tryz.sizeOf9
  v9 := Tryz.zeroValue9
  t24 := Tryz.underlying33
  a24 := Tryz.isAgg33
  z24 := Tryz.sizeOf33
  v24 := Tryz.zeroValue33
  i9 := by kernel_rfl }
open Go.RowKit Go.Lib in
/-- slices.Clone at []string: "Clone returns a copy of the slice. The elements are copied using assignment, so this is a shallow clone. The result may have additional unused capacity. The result preserves the nilness of s.": OF A SLICE THAT IS NOT nil IT RETURNS A SLICE THAT IS NOT nil, OF THE SAME ELEMENTS, IN MEMORY OF THE CALL's OWN: in the how-to's words (6f): 'w'.ownsRow B e 1 v' n cells': v' begins at the head of a row among the blocks from B on (B: the heap's size at the call), not frozen, whose first cells are the elements · 'Below B w w'': below B all is as it was. The capacity is whatever the run-time gives. 'zs': what the cells behind the slice's address hold; 'zs.take n': its elements. (LAID: no walk: one application.) -/
theorem Tryz.slices_Clone_string (b off n c : Nat) (zs : List ByteArray) (w : World) (hz : n ≤ zs.length) (hbig : n * 16 ≤ 140737488355328) (hc : ∀ j, j < zs.length → w.cell? ⟨b, off + j, none⟩ = some (.string (zs.getD j ByteArray.empty))) :
    Calls Tryz.prog 51 #[.slice (some ⟨b, off, none⟩) n c] w fun e w' => ∃ v', e = .returned v' ∧ w'.ownsRow w.heap.size 9 1 v' n ((zs.take n).map (Value.string)) ∧ v' ≠ .slice none 0 0 ∧ Below w.heap.size w w' := Any.slices_Clone_string Tryz.laysNm216 b off n c zs w hz hbig hc
open Go.RowKit Go.Lib in
/-- The same at nil: nil comes back; the world is as it was. (LAID: no walk: one application.) -/
theorem Tryz.slices_Clone_string_nil (n c : Nat) (w : World) :
    Calls Tryz.prog 51 #[.slice none n c] w fun e w' => e = .returned (.slice none 0 0) ∧ w' = w := Any.slices_Clone_string_nil Tryz.laysNm216 n c w
open Go.RowKit Go.Lib in
/-- The same at a slice of length 0 that is not nil, WHATEVER ITS ADDRESS (no cell is asked for): a slice that is not nil and owns nothing comes back. (LAID: no walk: one application.) -/
theorem Tryz.slices_Clone_string_zero (a : Addr) (c : Nat) (w : World) :
    Calls Tryz.prog 51 #[.slice (some a) 0 c] w fun e w' => ∃ v', e = .returned v' ∧ w'.ownsRow w.heap.size 9 1 v' 0 [] ∧ v' ≠ .slice none 0 0 ∧ Below w.heap.size w w' := Any.slices_Clone_string_zero Tryz.laysNm216 a c w
open Go.RowKit Go.Lib Go.Sort in
/-- slices.Reverse at []string, of an argument. (LAID: no walk: one application.) -/
theorem Tryz.slices_Reverse_string_cells (b off n c : Nat) (Sx : Nat → ByteArray) (w : World) (hbig : n ≤ 9223372036854775807) (hc : ∀ i, i < n → w.cell? ⟨b, off + i, none⟩ = some (.string (Sx i))) (hf : ∀ j, j < n → w.frozen? ⟨b, off + j, none⟩ = false) :
    Calls Tryz.prog 52 #[.slice (some ⟨b, off, none⟩) n c] w fun e w' => e = .returned (.tuple #[]) ∧ ∃ q, w' = (w.drewN q).setCells b off ((Lib.strsOf Sx n).reverse.map encStr) := Any.slices_Reverse_string_cells Tryz.laysNm217 b off n c Sx w hbig hc hf
def Tryz.laysValid_ren : Go.Shelf.Ren := ⟨fun | 196 => 78 | 259 => 95 | n => n, fun | 9 => 9 | 4 => 4 | 3 => 3 | 5 => 5 | 12 => 12 | 119 => 147 | 0 => 0 | 46 => 109 | 139 => 150 | 138 => 149 | 53 => 132 | n => n, fun | 3 => 0 | 4 => 1 | n => n⟩
theorem Tryz.laysValid : Go.Proofs.Lays.n196 Tryz.prog Tryz.laysValid_ren := {
  mixed := by kernel_rfl
  f196 := Tryz.func78.trans (congrArg some (by kernel_rfl))
  f259 := Tryz.func95.trans (congrArg some (by kernel_rfl))
  t0 := Tryz.underlying0
  a0 := Tryz.isAgg0
  z0 := Tryz.sizeOf0
  v0 := Tryz.zeroValue0
  t3 := Tryz.underlying3
  a3 := Tryz.isAgg3
  z3 := Tryz.sizeOf3
  v3 := Tryz.zeroValue3
  t4 := Tryz.underlying4
  a4 := Tryz.isAgg4
  z4 := Tryz.sizeOf4
  v4 := Tryz.zeroValue4
  t5 := Tryz.underlying5
  a5 := Tryz.isAgg5
  z5 := Tryz.sizeOf5
  v5 := Tryz.zeroValue5
  t9 := Tryz.underlying9
  a9 := Tryz.isAgg9
  z9 := Tryz.sizeOf9
  v9 := Tryz.zeroValue9
  t12 := Tryz.underlying12
  a12 := Tryz.isAgg12
  z12 := Tryz.sizeOf12
  v12 := Tryz.zeroValue12
  t46 := Tryz.underlying109
  a46 := Tryz.isAgg109
  z46 := Tryz.sizeOf109
  v46 := Tryz.zeroValue109
  t53 := Tryz.underlying132
  a53 := Tryz.isAgg132
  z53 := Tryz.sizeOf132
  v53 := Tryz.zeroValue132
  t119 := Tryz.underlying147
  a119 := Tryz.isAgg147
  z119 := Tryz.sizeOf147
  t138 := Tryz.underlying149
  a138 := Tryz.isAgg149
  z138 := Tryz.sizeOf149
  v138 := Tryz.zeroValue149
  t139 := Tryz.underlying150
  a139 := Tryz.isAgg150
  z139 := Tryz.sizeOf150
  v139 := Tryz.zeroValue150
  g3 := by kernel_rfl
  g4 := by kernel_rfl }
end Go.Proofs

/-
  PLAIN LAW: what the program's loop over the points has collected, round by round.
-/
set_option linter.unusedVariables false
set_option linter.unusedSimpArgs false
namespace Go.Proofs.YtdpllfgnppeneaaGreatDoor
open Ru

theorem ixs_split : ∀ (pre : List (Nat × Nat)) (o : Nat) (d : List Nat) (x : Nat × Nat) (rest : List (Nat × Nat)), ixs o d = pre ++ x :: rest → x.1 = o + (encS (pre.map (·.2))).length ∧ d = pre.map (·.2) ++ x.2 :: rest.map (·.2)
  | [], o, [], x, rest, h => by simp [ixs] at h
  | [], o, p :: t, x, rest, h => by
    simp only [ixs, List.nil_append, List.cons.injEq] at h
    obtain ⟨rfl, h2⟩ := h
    refine ⟨by simp [encS_nil], ?_⟩
    rw [← h2]
    simp [ixs_snd]
  | y :: pre, o, [], x, rest, h => by simp [ixs] at h
  | y :: pre, o, p :: t, x, rest, h => by
    simp only [ixs, List.cons_append, List.cons.injEq] at h
    obtain ⟨rfl, h2⟩ := h
    obtain ⟨h3, h4⟩ := ixs_split pre _ t x rest h2
    refine ⟨by rw [h3, List.map_cons, encS_cons, List.length_append]; dsimp only; omega, by rw [List.map_cons, List.cons_append, ← h4]⟩
theorem encS_pos {l : List Nat} (h : l ≠ []) : 0 < (encS l).length := by
  cases l with
  | nil => exact absurd rfl h
  | cons p t =>
    rw [encS_cons, List.length_append]
    have := (encL_len (p : Int)).1
    omega
theorem clus_len (d : List Nat) : (clus d).length ≤ d.length :=
  seg_ind (P := fun l => (clus l).length ≤ l.length) (Nat.le_refl _) (fun p ms rest hm hr ih => by
    rw [clus_seg p ms rest hm hr, List.length_cons, List.length_append, List.length_cons]
    omega) d
def RelP (d : List Nat) (pre : List (Nat × Nat)) (done : List (List Nat)) (c : List Nat) (f : Nat) : Prop :=
  ∃ rest, d = (done.flatten ++ c) ++ rest ∧ pre.map (·.2) = done.flatten ++ c ∧ f = (encS done.flatten).length ∧ ((pre = [] ∧ done = [] ∧ c = []) ∨ (c ≠ [] ∧ clus d = done ++ cluGo c rest))
theorem RelP.start (d : List Nat) : RelP d [] [] [] 0 := ⟨d, rfl, rfl, rfl, .inl ⟨rfl, rfl, rfl⟩⟩
theorem RelP.next {d : List Nat} {pre : List (Nat × Nat)} {done : List (List Nat)} {c : List Nat} {f : Nat} {x : Nat × Nat} (h : RelP d pre done c f) (hn : Nxt d pre x) :
    x.1 = f + (encS c).length ∧ ∃ t, d = (done.flatten ++ c) ++ x.2 :: t ∧ (c ≠ [] → clus d = done ++ cluGo c (x.2 :: t)) ∧ pre.map (·.2) = done.flatten ++ c ∧ f = (encS done.flatten).length ∧ (pre = [] → done = [] ∧ c = []) ∧ (pre ≠ [] → c ≠ []) := by
  obtain ⟨rest, h1, h2, h3, h4⟩ := h
  obtain ⟨rest', hr⟩ := hn
  obtain ⟨i1, i2⟩ := ixs_split pre 0 d x rest' hr
  rw [h2] at i1 i2
  have e : rest = x.2 :: rest'.map (·.2) := List.append_cancel_left (h1.symm.trans i2)
  subst e
  refine ⟨by rw [i1, encS_app, List.length_append, h3]; omega, _, i2, fun hc => ?_, h2, h3, fun hp => ?_, fun hp => ?_⟩
  · rcases h4 with ⟨_, _, h5⟩ | ⟨_, h5⟩
    · exact absurd h5 hc
    · exact h5
  · rcases h4 with ⟨_, h5, h6⟩ | ⟨h5, _⟩
    · exact ⟨h5, h6⟩
    · rw [hp] at h2
      have h7 := congrArg List.length h2
      rw [List.length_append] at h7
      simp only [List.map_nil, List.length_nil] at h7
      exact absurd (List.eq_nil_of_length_eq_zero (by omega)) h5
  · rcases h4 with ⟨h5, _⟩ | ⟨h5, _⟩
    · exact absurd h5 hp
    · exact h5
theorem RelP.first {d : List Nat} {done : List (List Nat)} {c : List Nat} {f : Nat} {x : Nat × Nat} (h : RelP d [] done c f) (hn : Nxt d [] x) : x.1 = 0 ∧ f = 0 ∧ done = [] ∧ RelP d ([] ++ [x]) [] [x.2] 0 := by
  obtain ⟨h1, t, h2, _, h4, h5, h6, _⟩ := h.next hn
  obtain ⟨rfl, rfl⟩ := h6 rfl
  have hf : f = 0 := by rw [h5]; rfl
  refine ⟨by rw [h1, hf]; rfl, hf, rfl, t, by simpa using h2, by simp, rfl, .inr ⟨by simp, ?_⟩⟩
  have e : d = x.2 :: t := by simpa using h2
  rw [e]
  rfl
theorem RelP.mark {d : List Nat} {pre : List (Nat × Nat)} {done : List (List Nat)} {c : List Nat} {f : Nat} {x : Nat × Nat} (h : RelP d pre done c f) (hn : Nxt d pre x) (hp : pre ≠ []) (hm : mk x.2 = true) : RelP d (pre ++ [x]) done (c ++ [x.2]) f := by
  obtain ⟨h1, t, h2, h3, h4, h5, _, h7⟩ := h.next hn
  refine ⟨t, by rw [h2]; simp, by rw [List.map_append, h4]; simp, h5, .inr ⟨by simp, ?_⟩⟩
  rw [h3 (h7 hp)]
  show done ++ (if mk x.2 = true then cluGo (c ++ [x.2]) t else _) = _
  rw [if_pos hm]
theorem RelP.base {d : List Nat} {pre : List (Nat × Nat)} {done : List (List Nat)} {c : List Nat} {f : Nat} {x : Nat × Nat} (h : RelP d pre done c f) (hn : Nxt d pre x) (hp : pre ≠ []) (hm : mk x.2 = false) : RelP d (pre ++ [x]) (done ++ [c]) [x.2] x.1 := by
  obtain ⟨h1, t, h2, h3, h4, h5, _, h7⟩ := h.next hn
  refine ⟨t, by rw [h2]; simp, by rw [List.map_append, h4]; simp, ?_, .inr ⟨by simp, ?_⟩⟩
  · rw [h1, h5, List.flatten_append, encS_app, List.length_append]
    simp
  · rw [h3 (h7 hp)]
    show done ++ (if mk x.2 = true then _ else c :: cluGo [x.2] t) = _
    rw [hm, if_neg (by simp)]
    simp
theorem RelP.slice {s : ByteArray} {d : List Nat} {pre : List (Nat × Nat)} {done : List (List Nat)} {c : List Nat} {f : Nat} {x : Nat × Nat} (hs : encS d = s.data.toList) (h : RelP d pre done c f) (hn : Nxt d pre x) (hp : pre ≠ []) :
    s.extract f x.1 = strC c ∧ f ≤ x.1 ∧ x.1 ≤ s.size ∧ 0 < x.1 ∧ done.length + 1 ≤ d.length := by
  obtain ⟨h1, t, h2, h3, h4, h5, _, h7⟩ := h.next hn
  have hc := h7 hp
  have e1 : s.data.toList = encS done.flatten ++ (encS c ++ encS (x.2 :: t)) := by rw [← hs, h2, encS_app, encS_app, List.append_assoc]
  have e2 : s.size = f + (encS c).length + (encS (x.2 :: t)).length := by rw [Lib.size_eq, e1, List.length_append, List.length_append, h5]; omega
  have hcp := encS_pos hc
  refine ⟨strL_of ?_, by omega, by omega, by omega, ?_⟩
  · rw [Lib.extract_data, e1, h5, List.drop_left, h1, h5, Nat.add_sub_cancel_left, List.take_left]
  · have h8 := clus_len d
    rw [h3 hc] at h8
    have h9 : 1 ≤ (cluGo c (x.2 :: t)).length := by
      unfold cluGo
      split
      · have : ∀ (r : List Nat) (q : List Nat), 1 ≤ (cluGo q r).length := by
          intro r
          induction r with
          | nil => intro q; simp [cluGo]
          | cons a r ih =>
            intro q
            unfold cluGo
            split
            · exact ih _
            · simp
        exact this _ _
      · simp
    rw [List.length_append] at h8
    omega
theorem RelP.fin {s : ByteArray} {d : List Nat} {done : List (List Nat)} {c : List Nat} {f : Nat} (hs : encS d = s.data.toList) (h : RelP d (ixs 0 d) done c f) :
    (s.size = 0 ∧ f = 0 ∧ done = [] ∧ clus d = []) ∨ (f < s.size ∧ s.extract f s.size = strC c ∧ clus d = done ++ [c] ∧ done.length + 1 ≤ d.length) := by
  obtain ⟨rest, h1, h2, h3, h4⟩ := h
  rw [ixs_snd] at h2
  have hr : rest = [] := by
    have := h1
    rw [← h2] at this
    have h5 := congrArg List.length this
    rw [List.length_append] at h5
    exact List.eq_nil_of_length_eq_zero (by omega)
  subst hr
  rcases h4 with ⟨h5, rfl, rfl⟩ | ⟨hc, h6⟩
  · left
    have hd : d = [] := by simpa using h2
    subst hd
    refine ⟨by rw [Lib.size_eq, ← hs]; rfl, by rw [h3]; rfl, rfl, rfl⟩
  · right
    have e1 : s.data.toList = encS done.flatten ++ encS c := by rw [← hs, h2, encS_app]
    have e2 : s.size = f + (encS c).length := by rw [Lib.size_eq, e1, List.length_append, h3]
    have hcp := encS_pos hc
    refine ⟨by omega, strL_of ?_, h6, ?_⟩
    · rw [Lib.extract_data, e1, h3, List.drop_left, List.take_of_length_le]
      omega
    · have h8 := clus_len d
      have h6' : clus d = done ++ [c] := h6
      rw [h6', List.length_append] at h8
      simpa using h8
end Go.Proofs.YtdpllfgnppeneaaGreatDoor

/-
  A REGION THAT DRAWS ITS ORDER, IN A ROUND: what holds of it outside of a round holds in a round.
-/
namespace Go.Proofs.YtdpllfgnppeneaaGreatDoor
open Go
set_option linter.unusedVariables false
variable {P : Program} {ops : Array Oper} {Q : Exit → Act → World → Prop}

theorem operIn_of {l n : Nat} {o : Oper} {a : Act} {w : World} {K : Act → World → Prop} (hd : ∀ c, o.op ≠ .defer c) (h : o.wp P a w K Q) : o.wpIn (Fence.wide.inRound l) n P a w K Q := by
  refine ⟨fun _ _ => trivial, ?_⟩
  have e : o.semAt (Fence.wide.inRound l).round a.eval = execOp a.eval o := Oper.semAt_some l a.eval o hd
  rw [e]
  unfold Oper.wp at h
  generalize (execOp a.eval o).run P w = r at h ⊢
  cases r with
  | ok x w' =>
    cases x with
    | value v => exact h
    | skip => exact h
    | defer d => exact h
    | enter f args =>
      refine ⟨fun hh => ?_, CallsIn.inRound l (callsIn_wide.2 h)⟩
      cases hh
    | row row args =>
      refine ⟨fun hh => ?_, fun c cs _ => ?_⟩
      · cases hh
      · obtain ⟨v, w2, h1, h2⟩ := h c cs
        exact ⟨v, w2, h1, stepsIn_wide.2 h2⟩
    | _ => exact h.elim
  | halt x w' =>
    cases x with
    | panic v => exact h
    | _ => exact h.elim
theorem wpAnyIn_of {l n : Nat} (hd : ∀ (i : Nat) (o : Oper) c, ops[i]? = some o → o.op ≠ .defer c) (hQ : ¬ LetsOut Q) : ∀ (fuel : Nat) (listed : Array Bool) (a : Act) (w : World),
    wpAny P .any ops Q fuel listed a w → wpAnyIn (Fence.wide.inRound l) n P .any ops Q fuel listed a w
  | 0, _, _, _, h => h
  | fuel + 1, listed, a, w, h => by
    refine ⟨h.1, fun i hi => ?_⟩
    have h2 := h.2 i hi
    unfold wpOp at h2
    unfold wpOpIn
    cases ho : ops[i]? with
    | none =>
      rw [ho] at h2
      exact wpAnyIn_of hd hQ fuel _ a w h2
    | some o =>
      rw [ho] at h2
      simp only at h2 ⊢
      split
      · rename_i hw
        rw [if_pos hw] at h2
        rcases h2 with h2 | h2
        · exact operIn_of (fun c => hd i o c ho) (Oper.wp_mono (fun a' w' h' => wpAnyIn_of hd hQ fuel _ a' w' h') h2)
        · exact absurd h2.2 hQ
      · rename_i hw
        rw [if_neg hw] at h2
        exact ⟨fun _ _ => trivial, wpAnyIn_of hd hQ fuel _ _ w h2⟩
/-- **The region in a round, from the walk of all orders under S.** -/
theorem wpIn_region_held {l n id : Nat} {a : Act} {w : World} (S : World → Prop) (hm : P.follows .mixedOrders = true) (hd : (ops.all fun o => match o.op with | .defer _ => false | _ => true) = true) (hQ : ¬ LetsOut Q)
    (h : wpAnyH P .any ops Q S ops.size (Array.replicate ops.size false) a w.drew) : (Code.region id ops true).wpIn (Fence.wide.inRound l) n P Q a w := by
  refine wpIn_region_any hm (wpAnyIn_of ?_ hQ _ _ _ _ (wpAny_of_held _ _ _ _ h))
  intro i o c ho e
  have hi := (Array.getElem?_eq_some_iff.1 ho).1
  have := Array.all_eq_true.1 hd i hi
  rw [(Array.getElem?_eq_some_iff.1 ho).2, e] at this
  cases this
theorem wpIn_region_calm {l n id : Nat} {a : Act} {w : World} (S : World → Prop) (hm : P.follows .mixedOrders = true) (hd : (ops.all fun o => match o.op with | .defer _ => false | _ => true) = true) (hQ : ∀ a w, ¬ Q .outgrown a w)
    (h : wpAnyH P .any ops (NoPanic Q) S ops.size (Array.replicate ops.size false) a w.drew) : (Code.region id ops true).wpIn (Fence.wide.inRound l) n P Q a w :=
  Go.wpIn_mono (wpIn_region_held (Q := NoPanic Q) S hm hd (by rintro ⟨a1, w1, h1⟩; exact hQ a1 w1 h1) h) NoPanic.imp
end Go.Proofs.YtdpllfgnppeneaaGreatDoor

namespace Go.Proofs.YtdpllfgnppeneaaGreatDoor
open Go.RowKit
set_option linter.unusedVariables false
set_option linter.unusedSimpArgs false

set_option maxHeartbeats 400000 in
theorem equal_strs (A B : Option Addr) (n m c d : Nat) (xs ys : List ByteArray) (w : World) (ha : SR w w.heap.size A n xs) (hb : SR w w.heap.size B m ys)
    (hn : n ≤ 9223372036854775807) (hm : m ≤ 9223372036854775807) :
    Calls Tryz.prog 17 #[.slice A n c, .slice B m d] w fun e w' => e = .returned (.bool (decide (xs = ys))) ∧ ∃ k, w' = w.drewN k := by
  have hxl : xs.length = n := ha.len
  have hyl : ys.length = m := hb.len
  by_cases hnm : n = m
  · subst hnm
    have HX := Lib.hid hxl; clear hxl
    have HY := Lib.hid hyl; clear hyl
    go_enter Tryz.func17, Tryz.ntmps17
    go_wp2
    go_loopw [5] (fun i wr => ∃ k : Nat, k ≤ n ∧ i = .int .i64 k ∧ Hid (xs.take k = ys.take k) ∧ Hid (∃ q, wr = w.drewN q)) (fun i _ => n - (intOf i).toNat)
    case atStart => exact ⟨0, Nat.zero_le _, rfl, rfl, ⟨0, rfl⟩⟩
    case round =>
      obtain ⟨k, hk, rfl, hpre, HZ⟩ := hrel
      by_cases hlt : k < n
      · obtain ⟨ad, x, rfl, _, hx, hcx⟩ := ha.at_ hlt
        obtain ⟨bd, y, rfl, _, hy, hcy⟩ := hb.at_ hlt
        have HXK := Lib.hid hx; clear hx
        have HYK := Lib.hid hy; clear hy
        replace hcx : wr.cell? (ad.add k) = _ := cell_z HZ hcx
        replace hcy : wr.cell? (bd.add k) = _ := cell_z HZ hcy
        have hkn : (k : Int) < (n : Int) := by omega
        by_cases hxy : x = y
        · subst hxy
          have HNEXT : Hid (xs.take (k + 1) = ys.take (k + 1)) := take_snoc_eq hpre.out HXK.out HYK.out rfl
          go_wp2_with fail
          go_quiet (fail)
          go_wp2
          go_roundw
          case rel => exact ⟨k + 1, by omega, by go_num, HNEXT, drew_z HZ _⟩
          case measure => simp [intOf]; omega
        · have hne : (x.toList == y.toList) = false := by
            rw [Lib.toList_data, Lib.toList_data]
            refine beq_eq_false_iff_ne.2 fun e => hxy ?_
            cases x with | mk d => cases y with | mk e' => cases d with | mk p => cases e' with | mk q => simp at e; rw [e]
          have HRES : Hid (decide (xs = ys) = false) := decide_eq_false fun he => by
            have h1 := HXK.out
            rw [he, HYK.out] at h1
            injection h1 with h1
            exact hxy h1.symm
          go_wp2_with fail
          go_quiet (fail)
          go_wp2
          go_ret
          exact ⟨ret_bool HRES.out.symm, drew_z HZ _⟩
      · obtain rfl : n = k := by omega
        have HRES : Hid (decide (xs = ys) = true) := by
          have h1 := hpre.out
          rw [List.take_of_length_le (by rw [HX.out]; exact Nat.le_refl _), List.take_of_length_le (by rw [HY.out]; exact Nat.le_refl _)] at h1
          exact decide_eq_true h1
        go_wp2
        go_ret
        exact ⟨ret_bool HRES.out.symm, HZ.out⟩
  · have hd : ((n : Int) != (m : Int)) = true := by rw [bne_iff_ne]; omega
    have HRES : Hid (decide (xs = ys) = false) := decide_eq_false fun he => hnm (by rw [← hxl, ← hyl, he])
    go_enter Tryz.func17, Tryz.ntmps17
    go_wp2
    go_ret
    exact ⟨ret_bool HRES.out.symm, 0, rfl⟩
end Go.Proofs.YtdpllfgnppeneaaGreatDoor

namespace Go.Proofs.YtdpllfgnppeneaaGreatDoor
open Go.RowKit

theorem ints_at {w : World} {B : Nat} {A : Option Addr} {n k : Nat} {xs : List Int} (h : Reads w B 1 A n (xs.map (.int .i64))) (hk : k < n) :
    ∃ ad x, A = some ad ∧ ad.block < B ∧ xs[k]? = some x ∧ w.cell? (ad.add k) = some (.int .i64 x) := by
  obtain ⟨ad, u, e, hb, hx, hc⟩ := h.at_ hk
  rw [List.getElem?_map] at hx
  cases hz : xs[k]? with
  | none => rw [hz] at hx; cases hx
  | some x => rw [hz] at hx; cases hx; exact ⟨ad, x, e, hb, rfl, hc⟩

end Go.Proofs.YtdpllfgnppeneaaGreatDoor

namespace Go.Proofs.YtdpllfgnppeneaaGreatDoor
open Go.RowKit Ru
set_option linter.unusedVariables false
set_option linter.unusedSimpArgs false

theorem byteCells_len (l : List UInt8) : (Lib.byteCells l).length = l.length := by simp [Lib.byteCells]
theorem byteCells_app (a b : List UInt8) : Lib.byteCells (a ++ b) = Lib.byteCells a ++ Lib.byteCells b := by simp [Lib.byteCells]
theorem runeCells_enc {p : Nat} (h : scalarB (p : Int) = true) : Lib.runeCells (p : Int) = Lib.byteCells (encL (p : Int)) := by
  rw [← Lib.byteCells_encodeRune, encodeRune_same h]
/-- 'string(b)' of a row of the call's own. -/
theorem conv_own {w : World} {base : Nat} {v : Value} {bs : List UInt8} (h : w.ownsRow base 5 1 v bs.length (Lib.byteCells bs)) :
    (convert 100 9 v).run Tryz.prog w = .ok (.string (strL bs)) w := by
  obtain ⟨A, c, rfl, _, _, hr⟩ := own_form h
  cases A with
  | none =>
    have hn : bs = [] := by
      have := (reads_none hr).1
      exact List.eq_nil_of_length_eq_zero this
    subst hn
    exact run_convert_bytes_nil (P := Tryz.prog) (w := w) 100 5 Tryz.underlying100 Tryz.underlying5 _ c 9 Tryz.underlying9
  | some ad =>
    refine run_convert_bytes_back (P := Tryz.prog) w 100 9 5 ad c bs Tryz.underlying100 Tryz.underlying5 Tryz.underlying9 fun j hj => ?_
    obtain ⟨ad', e1, _, hc⟩ := hr.2 (by omega)
    cases e1
    refine hc j _ ?_
    unfold Lib.byteCells
    rw [List.getElem?_map, List.getElem?_eq_getElem hj]
    rfl
theorem info_u8 : (Tryz.prog.info? 5).map (fun i => (i.zero, i.size, i.bytes)) = some (some (.int .u8 0), 1, 1) := by kernel_rfl

end Go.Proofs.YtdpllfgnppeneaaGreatDoor

namespace Go.Proofs.YtdpllfgnppeneaaGreatDoor
open Go.RowKit Go.Shelf Ru
attribute [local go_sem] Oper.semAt_some
set_option linter.unusedVariables false
set_option linter.unusedSimpArgs false

def Tabs (w : World) : Prop := Lib.Utf8Tabs (Tryz.laysValid_ren.g 3) (Tryz.laysValid_ren.g 4) w
theorem Tabs.on {w w' : World} (h : Tabs w) (hb : Below w.heap.size w w') : Tabs w' := Utf8Tabs_below h hb
theorem valid_any (s : ByteArray) (w : World) (hs : s.size ≤ 9223372036854775807) (hT : Tabs w) :
    Calls Tryz.prog 78 #[.string s] w fun e w' => e = .returned (.bool (points s.data.toList).isSome) ∧ Below w.heap.size w w' :=
  mono_eq (Any.utf8_ValidString Tryz.laysValid s w hs hT) (by rw [validD_points])

set_option maxRecDepth 100000 in
set_option maxHeartbeats 2000000 in
theorem points_any (s : ByteArray) (w : World) (hs : s.size ≤ 1099511627776) (hT : Tabs w) :
    Calls Tryz.prog 56 #[.string s] w (PointsPost w (Ru.points s.data.toList)) := by
  have HV := Lib.hid (valid_any s w (by omega) hT)
  obtain ⟨o, ho⟩ : ∃ o, Hid (points s.data.toList = o) := ⟨_, rfl⟩
  rw [ho.out] at HV ⊢
  cases o with
  | none =>
    go_enter Tryz.func56, Tryz.ntmps56
    go_wp2_with fail
    refine HV.out.mono ?_
    rintro e w1 ⟨rfl, hb1⟩
    go_wp2
    go_ret2
    exact ⟨fun _ => rfl, (fun d h => by cases h), hb1⟩
  | some d =>
    refine (callsIn_wide (n := 4)).1 ?_
    refine callsIn_of_wp_marks Tryz.func56 rfl trivial ?_ rfl
    simp only [Tryz.ntmps56, List.size_toArray, List.length_cons, List.length_nil, Nat.reduceAdd, Nat.reduceSub, Array.replicate_succ, Array.replicate_zero, List.push_toArray, List.append_toArray, List.nil_append, List.cons_append]
    gi_wp2_with (first
      | (refine ⟨trivial, ?_⟩; gi_at_call 78; refine (callsIn_wide.2 HV.out).mono ?_; rintro e w1 ⟨rfl, hb1⟩; have hsz1 := hb1.size)
      | (refine ⟨trivial, ?_⟩; gi_at_call 79; refine (callsIn_wide.2 (scalars_any s _)).mono ?_; rintro e w2 ⟨rfl, rfl⟩)
      | (gi_at_call 78; refine (callsIn_wide.2 HV.out).mono ?_; rintro e w1 ⟨rfl, hb1⟩; have hsz1 := hb1.size)
      | (gi_at_call 79; refine (callsIn_wide.2 (scalars_any s _)).mono ?_; rintro e w2 ⟨rfl, rfl⟩))
    have HT := Lib.hid hT; clear hT
    obtain ⟨i0, hi, hz0, hz1, hz2⟩ := info_parts info_int
    have hbox0 := Boxed.new w1 22 (.slice none 0 0)
    have hbox1 := hbox0.alloc (.cells #[.string s] 9)
    have hcs : ((w1.alloc (.cells #[.slice none 0 0] 22)).alloc (.cells #[.string s] 9)).cell? ⟨w1.heap.size + 1, 0, none⟩ = some (.string s) := by
      rw [World.cell?_alloc_at _ _ _ _ (by simp)]
      rfl
    have hb2 : Below w.heap.size w ((w1.alloc (.cells #[.slice none 0 0] 22)).alloc (.cells #[.string s] 9)) := (hb1.alloc hsz1 _).alloc (by simp; omega) _
    have hz2' : ((w1.alloc (.cells #[.slice none 0 0] 22)).alloc (.cells #[.string s] 9)).heap.size = w1.heap.size + 2 := by simp
    obtain ⟨W2, hW2⟩ : ∃ W2, W2 = (w1.alloc (.cells #[.slice none 0 0] 22)).alloc (.cells #[.string s] 9) := ⟨_, rfl⟩
    rw [← hW2] at hbox1 hcs hb2 hz2' ⊢
    clear hW2 hbox0
    obtain ⟨B, hB⟩ : ∃ B, w1.heap.size = B := ⟨_, rfl⟩
    rw [hB] at hbox1 hcs hz2' hsz1 ⊢
    clear hB hb1
    have hBz : B < W2.heap.size := by omega
    refine wpIn_range_next rfl (by omega) (gf := 96) (lb := #[.pointer (some ⟨B + 1, 0, none⟩)]) rfl trivial (enters_of Tryz.func96 (by kernel_rfl) rfl)
      (scalars_next Fence.wide _ trivial rfl (by omega) (B + 1) s d (by omega) ho.out W2 (by omega) hcs) (Below.refl _ _) (fun _ => rfl)
      (fun pre W => (∃ v, Boxed W B 22 v ∧ W.ownsRow w.heap.size 3 1 v pre.length (pre.map fun x => Value.int .i64 (x.2 : Int)) ∧ True) ∧ Below w.heap.size w W)
      (OwnFrom.and (Own.from (holdsRow_own w.heap.size B 22 3 1 (fun pre : List (Nat × Nat) => pre.length) (fun pre => pre.map fun x => Value.int .i64 (x.2 : Int)) (fun _ _ => True)) _) (ownFrom_below (Nat.le_refl _) (by omega)))
      ⟨⟨_, hbox1, World.ownsRow_nil _ _ _ _, trivial⟩, hb2⟩
      (fun x => { tmps := #[.string s, undef, .slice none 0 0, .bool false, .pointer (some ⟨B, 0, none⟩), undef, .int .i64 (x.2 : Int), .string s, .bool true, .bool false, .string s, .func (.func 96) #[] #[.pointer (some ⟨B + 1, 0, none⟩)], .int .i64 (x.1 : Int), .int .i64 (x.2 : Int), undef, undef, undef, undef, undef], defers := [] })
      ?assign ?body ?done
    case assign =>
      intro l x W K hK
      unfold encX
      gi_wp2
      exact hK
    case body =>
      rintro l pre x W ⟨⟨v, hbx, hrow, _⟩, hbw⟩ ⟨rest, hnx⟩
      have hlen : pre.length < d.length := by
        have h1 := congrArg List.length hnx
        rw [ixs_length, List.length_append] at h1
        simp at h1
        omega
      have hdl : d.length ≤ s.size := by
        have := points_length _ _ _ (Nat.le_refl _) ho.out
        rwa [← Lib.size_eq] at this
      have hcx := hbx.cell
      have hfx := hbx.frozen
      have hszw := hbw.size
      clear hnx
      gi_wp2_with (gi_at_builtin; refine wpListIn_append_own _ rfl _ _ 22 rfl w.heap.size 3 i0 (.int .i64 0) 1 8 Tryz.underlying22 hi hz0 hz1 hz2 rfl (by decide) _ _ _ rfl (hrow.alloc _) ⟨W.heap.size, 0, none⟩ 1 1 [.int .i64 (x.2 : Int)] rfl rfl (cell_one_new _ _ _) (by simp [Value.oneCell']) (by unfold maxLen; omega) (by omega) (by simp; omega) ?_
                   intro v' w3 hown' hgrow _
                   obtain ⟨g', cap', rfl⟩ := ownsRow_succ hown'
                   obtain ⟨hv1, hv2, hr2, hk2, hbb2⟩ := hbx.appended (by decide) hrow hszw (by omega) hown' hgrow
                   have hcx3 := hv1.cell
                   have hfx3 := hv1.frozen
                   clear hcx hfx)
      refine ⟨hk2, ⟨hk2.size, fun k o h1 h2 => hk2.same k o h1 (Obj.not_cells_of_walk h2)⟩, ⟨_, hv2, ?_, trivial⟩, hbw.trans hbb2⟩
      rw [List.length_append, List.map_append]
      exact hr2
    case done =>
      rintro D xs W hD rfl ⟨⟨v, hbx, hrow, _⟩, hbw⟩ hK
      have hcx := hbx.cell
      gi_wp2
      refine ⟨by simp, .inl ⟨_, _, rfl, run_takeDeferred hK, ?_⟩⟩
      refine ⟨_, results_tmp2 rfl _ _ _, ?_⟩
      have hfin := ownsRow_putObj hrow (.deferred none) hK rfl
      have hbf := hbw.trans (belowK_b (w := w) (Nat.le_refl _) W D _ (.deferred none) (by omega) hK rfl rfl)
      refine ⟨(fun h => by cases h), fun d' hd' => ?_, hbf⟩
      cases hd'
      refine ⟨v, rfl, ?_⟩
      rw [ixs_length] at hfin
      have e1 : (ixs 0 d).map (fun x => Value.int .i64 (x.2 : Int)) = d.map fun (p : Nat) => Value.int .i64 (p : Int) := by
        conv => rhs; rw [← ixs_snd d 0]
        rw [List.map_map]
        rfl
      rw [e1] at hfin
      exact hfin
end Go.Proofs.YtdpllfgnppeneaaGreatDoor

namespace Go.Proofs.YtdpllfgnppeneaaGreatDoor
open Go.RowKit Go.Shelf Ru
attribute [local go_sem] Oper.semAt_some
set_option linter.unusedVariables false
set_option linter.unusedSimpArgs false

/-- What the loop has collected, as the world holds it. -/
def CluI (w1 : World) (B : Nat) (d : List Nat) (pre : List (Nat × Nat)) (W : World) : Prop :=
  ∃ (v : Value) (done : List (List Nat)) (c : List Nat) (f : Nat), Boxed W B 33 v ∧ W.ownsRow B 9 1 v done.length (strV done) ∧ Boxed W (B + 1) 3 (.int .i64 (f : Int)) ∧ RelP d pre done c f ∧ Below B w1 W
theorem cluI_own (w1 : World) (B n : Nat) (d : List Nat) (hn : B ≤ n) : OwnFrom n (CluI w1 B d) := by
  rintro pre X Y row ⟨v, done, c, f, h1, h2, h3, h4, h5⟩ hg hrow
  have hx : ∀ {k : Nat} {t : TypeId} {u : Value}, Boxed X k t u → some k ≠ row := by
    intro k t u hv e'
    obtain ⟨_, o, ho, hc⟩ := hrow k e'.symm
    rw [show X.heap[k]? = _ from hv] at ho; cases ho; cases hc
  refine ⟨v, done, c, f, h1.kept hg (hx h1), h2.kept hg ?_, h3.kept hg (hx h3), h4, h5.grown hg ?_ fun r e => ?_⟩
  · rcases h2.2 with ⟨rfl, _⟩ | ⟨g, cap, cur, rfl, _, hgb, _⟩
    · exact .inl rfl
    · refine .inr fun e' => ?_
      obtain ⟨_, o, ho, hc⟩ := hrow g (by simpa [Value.ownBlock] using e'.symm)
      rw [hgb] at ho; cases ho; cases hc
  · have := h1.lt
    omega
  · exact Nat.le_trans hn (hrow r e).1

theorem cell_new1 {w w1 : World} {v : Value} {t : TypeId} (hb1 : Below (w.alloc (.cells #[v] t)).heap.size (w.alloc (.cells #[v] t)) w1) : w1.cell? ⟨w.heap.size, 0, none⟩ = some v := by
  rw [hb1.cell (by simp), World.cell?_alloc_at _ _ _ _ rfl]
  rfl
theorem size_new1 {w w1 : World} {v : Value} {t : TypeId} (hb1 : Below (w.alloc (.cells #[v] t)).heap.size (w.alloc (.cells #[v] t)) w1) : w.heap.size + 1 ≤ w1.heap.size := by
  have := hb1.size
  simpa using this
theorem cell_new2 {w w1 : World} {v : Value} {t : TypeId} (hb1 : Below (w.alloc (.cells #[v] t)).heap.size (w.alloc (.cells #[v] t)) w1) (o p : Obj) : ((w1.alloc o).alloc p).cell? ⟨w.heap.size, 0, none⟩ = some v := by
  have := size_new1 hb1
  rw [World.cell?_alloc_lt _ _ _ (by simp; omega), World.cell?_alloc_lt _ _ _ (by show w.heap.size < w1.heap.size; omega)]
  exact cell_new1 hb1
theorem below_new1 {w w1 : World} {v : Value} {t : TypeId} (hb1 : Below (w.alloc (.cells #[v] t)).heap.size (w.alloc (.cells #[v] t)) w1) : Below w.heap.size w w1 := (below_new w _).trans (hb1.mono (by simp))

set_option maxRecDepth 100000 in
set_option maxHeartbeats 4000000 in
theorem clusters_any (s : ByteArray) (w : World) (hs : s.size ≤ 1099511627) (hT : Tabs w) :
    Calls Tryz.prog 57 #[.string s] w fun e w' => ∃ v, e = .returned v ∧ w'.ownsRow w.heap.size 9 1 v (clusB s.data.toList).length ((clusB s.data.toList).map .string) ∧ Below w.heap.size w w' := by
  have HV := Lib.hid fun W (hW : Below w.heap.size w W) => valid_any s W (by omega) (hT.on hW)
  obtain ⟨o, ho⟩ : ∃ o, Hid (points s.data.toList = o) := ⟨_, rfl⟩
  rw [ho.out] at HV
  cases o with
  | none =>
    have HRES : Hid (clusB s.data.toList = []) := by
      show _ = _
      unfold clusB
      rw [ho.out]
    rw [HRES.out]
    go_enter Tryz.func57, Tryz.ntmps57
    go_wp2_with fail
    refine (HV.out _ (below_new _ _)).mono ?_
    rintro e w1 ⟨rfl, hb1⟩
    go_wp2
    go_ret
    exact ⟨_, rfl, World.ownsRow_nil _ _ _ _, (below_new w _).trans (hb1.mono (by simp))⟩
  | some d =>
    have HRES : Hid (clusB s.data.toList = (clus d).map strC) := by
      show _ = _
      unfold clusB
      rw [ho.out]
    have HE : Hid (encS d = s.data.toList) := encS_points ho.out
    have hdl : d.length ≤ 1099511627 := by
      have := points_length _ _ _ (Nat.le_refl _) ho.out
      rw [← Lib.size_eq] at this
      omega
    rw [HRES.out]
    refine (callsIn_wide (n := 4)).1 ?_
    refine callsIn_of_wp_marks Tryz.func57 rfl trivial ?_ rfl
    simp only [Tryz.ntmps57, List.size_toArray, List.length_cons, List.length_nil, Nat.reduceAdd, Nat.reduceSub, Array.replicate_succ, Array.replicate_zero, List.push_toArray, List.append_toArray, List.nil_append, List.cons_append]
    gi_wp2_with (first
      | (refine ⟨trivial, ?_⟩; gi_at_call 79; refine (callsIn_wide.2 (scalars_any s _)).mono ?_; rintro e w2 ⟨rfl, rfl⟩)
      | (refine ⟨trivial, ?_⟩; gi_at_call 78; refine (callsIn_wide.2 (HV.out _ (below_new _ _))).mono ?_; rintro e w1 ⟨rfl, hb1⟩; have hbs := cell_new1 hb1; have hbs2 := cell_new2 hb1 (.cells #[.slice none 0 0] 33) (.cells #[.int .i64 0] 3); have hsz1 := size_new1 hb1))
    have hb1' := below_new1 hb1
    have hbox0 := (Boxed.new w1 33 (.slice none 0 0)).alloc (.cells #[.int .i64 0] 3)
    have hbox1 := Boxed.new (w1.alloc (.cells #[.slice none 0 0] 33)) 3 (.int .i64 0)
    rw [World.size_alloc] at hbox1
    have hbox0 := hbox0.alloc (.cells #[.string s] 9)
    have hbox1 := hbox1.alloc (.cells #[.string s] 9)
    have hcs : (((w1.alloc (.cells #[.slice none 0 0] 33)).alloc (.cells #[.int .i64 0] 3)).alloc (.cells #[.string s] 9)).cell? ⟨w1.heap.size + 1 + 1, 0, none⟩ = some (.string s) := by
      rw [World.cell?_alloc_at _ _ _ _ (by simp)]
      rfl
    have hb2 : Below w1.heap.size w1 (((w1.alloc (.cells #[.slice none 0 0] 33)).alloc (.cells #[.int .i64 0] 3)).alloc (.cells #[.string s] 9)) := (((Below.refl _ _).alloc (Nat.le_refl _) _).alloc (by simp) _).alloc (by simp; omega) _
    have hz2 : (((w1.alloc (.cells #[.slice none 0 0] 33)).alloc (.cells #[.int .i64 0] 3)).alloc (.cells #[.string s] 9)).heap.size = w1.heap.size + 3 := by simp
    obtain ⟨W2, hW2⟩ : ∃ W2, W2 = (((w1.alloc (.cells #[.slice none 0 0] 33)).alloc (.cells #[.int .i64 0] 3)).alloc (.cells #[.string s] 9)) := ⟨_, rfl⟩
    rw [← hW2] at hbox0 hbox1 hcs hb2 hz2 ⊢
    clear hW2 hbs2 hb1
    obtain ⟨B, hB⟩ : ∃ B, w1.heap.size = B := ⟨_, rfl⟩
    rw [hB] at hbox0 hbox1 hcs hb2 hz2 hsz1 ⊢
    obtain ⟨p0, hp0⟩ : ∃ p0, w.heap.size = p0 := ⟨_, rfl⟩
    have HB1 : Hid (Below w.heap.size w w1) := hb1'
    have HP0 := Lib.hid hp0
    have HBz := Lib.hid hB
    rw [hp0] at hbs hsz1
    simp only [hp0]
    clear hb1' hp0 hB
    refine wpIn_range_next rfl (by omega) (gf := 96) (lb := #[.pointer (some ⟨B + 1 + 1, 0, none⟩)]) rfl trivial (enters_of Tryz.func96 (by kernel_rfl) rfl)
      (scalars_next Fence.wide _ trivial rfl (by omega) (B + 1 + 1) s d (by omega) ho.out W2 (by omega) hcs) (Below.refl _ _) (fun _ => rfl)
      (CluI w1 B d) (cluI_own w1 B _ d (by omega)) ⟨_, [], [], 0, hbox0, World.ownsRow_nil _ _ _ _, hbox1, RelP.start d, hb2⟩
      (fun x => { tmps := #[.string s, .pointer (some ⟨p0, 0, none⟩), .slice none 0 0, .pointer (some ⟨B, 0, none⟩), .pointer (some ⟨B + 1, 0, none⟩), .int .i64 (x.1 : Int), .int .i64 (x.2 : Int), .string s, .bool true, .bool false, .string s, .func (.func 96) #[] #[.pointer (some ⟨B + 1 + 1, 0, none⟩)], .int .i64 (x.1 : Int), .int .i64 (x.2 : Int), undef, undef, undef, undef, undef, undef, undef, undef, undef, undef, undef, undef, undef, undef, undef, undef, undef, undef, undef, undef, undef, undef, undef, undef, undef, undef], defers := [] })
      ?assign ?body ?done
    case assign =>
      intro l x W K hK
      unfold encX
      gi_wp2
      exact hK
    case body =>
      rintro l pre x W ⟨v, done, c, f, hbx, hrow, hbf, hrel, hbw⟩ hnx
      by_cases hp : pre = []
      · subst hp
        obtain ⟨hx0, hf0, rfl, hrel2⟩ := hrel.first hnx
        have hd0 : decide ((0 : Int) < (x.1 : Int)) = false := decide_eq_false (by omega)
        subst hf0
        have hni : ¬ (0 : Int) < (x.1 : Int) := by omega
        gi_wp2_with (first | (exfalso; omega) | refine ⟨trivial, ?_⟩)
        exact ⟨KeepsOthers.refl _, KeepsWalks.refl _, v, [], [x.2], 0, hbx, hrow, hbf, hrel2, hbw⟩
      · obtain ⟨hx1, hx2, hx3, hx4, hx5⟩ := hrel.slice HE.out hnx hp
        have hd0 : decide ((0 : Int) < (x.1 : Int)) = true := decide_eq_true (by omega)
        obtain ⟨mp, hmp⟩ : ∃ b, Hid (mk x.2 = b) := ⟨_, rfl⟩
        have HMK : Hid (∀ W, Calls Tryz.prog 80 #[.int .i64 (x.2 : Int)] W fun e w' => e = .returned (.bool mp) ∧ W = w') := fun W => mono_eq (mark_any x.2 W) (by rw [← hmp.out]; rfl)
        cases mp with
        | true =>
          have hrel2 := hrel.mark hnx hp hmp.out
          have HREL2 := Lib.hid hrel2
          clear hrel2 hrel
          gi_wp2_with (refine ⟨trivial, ?_⟩; gi_at_call 80; refine (CallsIn.inRound _ (callsIn_wide.2 (HMK.out _))).mono ?_; rintro e w2 ⟨rfl, rfl⟩)
          exact ⟨KeepsOthers.refl _, KeepsWalks.refl _, v, done, c ++ [x.2], f, hbx, hrow, hbf, HREL2.out, hbw⟩
        | false =>
          have HREL2 := Lib.hid (hrel.base hnx hp hmp.out)
          clear hrel
          gi_wp2_with (refine ⟨trivial, ?_⟩; gi_at_call 80; refine (CallsIn.inRound _ (callsIn_wide.2 (HMK.out _))).mono ?_; rintro e w2 ⟨rfl, rfl⟩)
          have hS0 : Below B w1 W.drew ∧ Boxed W.drew (B + 1) 3 (.int .i64 (f : Int)) := ⟨hbw.drew, hbf⟩
          have hbx0 : Boxed W.drew B 33 v := hbx
          have hrow0 : W.drew.ownsRow B 9 1 v done.length (strV done) := hrow
          have hko : KeepsOthers W W.drew := ⟨Nat.le_refl _, fun _ _ h _ => h⟩
          have hkw : KeepsWalks W W.drew := ⟨Nat.le_refl _, fun _ _ h _ => h⟩
          refine wpIn_region_calm (fun W => Below B w1 W ∧ Boxed W (B + 1) 3 (.int .i64 (f : Int))) (by kernel_rfl) (by kernel_rfl) (fun _ _ h => h) ?_
          have hcx0 := hbx0.cell
          have hszw : B ≤ W.drew.heap.size := Nat.le_of_lt hbx0.lt
          obtain ⟨W0, hW0⟩ : ∃ W0, W0 = W.drew := ⟨_, rfl⟩
          rw [← hW0] at hS0 hbx0 hrow0 hko hkw hcx0 hszw ⊢
          clear hW0
          have hcxa := (hbx0.alloc (.cells #[.string (strC c)] 9)).cell
          have hSa : Below B w1 (W0.alloc (.cells #[.string (strC c)] 9)) ∧ Boxed (W0.alloc (.cells #[.string (strC c)] 9)) (B + 1) 3 (.int .i64 (f : Int)) := ⟨hS0.1.trans ((Below.refl B W0).alloc hszw _), hS0.2.alloc _⟩
          have hHeld : (fun W => Below B w1 W ∧ Boxed W (B + 1) 3 (.int .i64 (f : Int))) W0 := hS0
          refine wpAnyH_take (i := 1) (oi := { dst := some 22, op := Go.Op.load 9 (Go.Operand.tmp 1), type := 9, pos := "runes.go:70", after := #[], guard := none }) (v := ?_) rfl (by kernel_rfl) (by kernel_rfl) (by kernel_rfl) (fun _ _ _ h => h) (Or.inl ⟨by rfl, ?_⟩) (by assumption) ?_
          rotate_left
          · (intro w hSw; (try dsimp only at hSw); have hc := (hSw.1.cell (p := ⟨p0, 0, none⟩) (by show p0 < B; omega)).trans hbs; go_simp; try with_reducible rfl)
          rotate_left
          try simp only [Act.put, List.setIfInBounds_toArray, List.set_cons_zero, List.set_cons_succ]
          refine wpAnyH_take (i := 2) (oi := { dst := some 23, op := Go.Op.load 3 (Go.Operand.tmp 4), type := 3, pos := "runes.go:70", after := #[], guard := none }) (v := ?_) rfl (by kernel_rfl) (by kernel_rfl) (by kernel_rfl) (fun _ _ _ h => h) (Or.inl ⟨by rfl, ?_⟩) (by assumption) ?_
          rotate_left
          · (intro w hSw; (try dsimp only at hSw); have hc := hSw.2.cell; go_simp; try with_reducible rfl)
          rotate_left
          try simp only [Act.put, List.setIfInBounds_toArray, List.set_cons_zero, List.set_cons_succ]
          refine wpAnyH_take (i := 3) (oi := { dst := some 24, op := Go.Op.move (Go.Operand.tmp 5), type := 3, pos := "runes.go:70", after := #[], guard := none }) (v := ?_) rfl (by kernel_rfl) (by kernel_rfl) (by kernel_rfl) (fun _ _ _ h => h) (Or.inl ⟨by rfl, ?_⟩) (by assumption) ?_
          rotate_left
          · (intro w hSw; (try dsimp only at hSw); go_simp; try with_reducible rfl)
          rotate_left
          try simp only [Act.put, List.setIfInBounds_toArray, List.set_cons_zero, List.set_cons_succ]
          refine wpAnyH_take (i := 4) (oi := { dst := some 25, op := Go.Op.slice 9 (Go.Operand.tmp 22) (some (Go.Operand.tmp 23)) (some (Go.Operand.tmp 24)) none, type := 9, pos := "runes.go:70", after := #[{ on := 1, ground := Go.Ground.data }, { on := 2, ground := Go.Ground.data }, { on := 3, ground := Go.Ground.data }], guard := none }) (v := ?_) rfl (by kernel_rfl) (by kernel_rfl) (by kernel_rfl) (fun _ _ _ h => h) (Or.inl ⟨by rfl, ?_⟩) (by assumption) ?_
          rotate_left
          · (intro w hSw; (try dsimp only at hSw); go_simp; try with_reducible rfl)
          rotate_left
          try simp only [Act.put, List.setIfInBounds_toArray, List.set_cons_zero, List.set_cons_succ]
          refine wpAnyH_ready (rs := [0, 5]) (by kernel_rfl) (by simp) ?_
          refine AllReadyH.cons (o := { dst := some 21, op := Go.Op.load 33 (Go.Operand.tmp 3), type := 33, pos := "runes.go:70", after := #[], guard := none }) rfl (fun K hK => ?_) ?_
          · go_simp
            refine hK.out _ _ ?_ (fun hHeld => ?_)
            · (try dsimp only); (first | exact hS0 | exact hSa | exact hS3 | exact hS7)
            clear hK K
            try simp only [Act.put, List.setIfInBounds_toArray, List.set_cons_zero, List.set_cons_succ]
            refine wpAnyH_ready (rs := [5]) (by kernel_rfl) (by simp) ?_
            refine AllReadyH.cons (o := { dst := some 26, op := Go.Op.buildSlice 33 1 #[(0, Go.Operand.tmp 25)], type := 33, pos := "runes.go:70", after := #[{ on := 4, ground := Go.Ground.data }], guard := none }) rfl (fun K hK => ?_) AllReadyH.nil
            go_simp
            refine hK.out _ _ ?_ (fun hHeld => ?_)
            · (try dsimp only); (first | exact hS0 | exact hSa | exact hS3 | exact hS7)
            clear hK K
            try simp only [Act.put, List.setIfInBounds_toArray, List.set_cons_zero, List.set_cons_succ]
            refine wpAnyH_ready (rs := [6]) (by kernel_rfl) (by simp) ?_
            refine AllReadyH.cons (o := { dst := some 27, op := Go.Op.call { callee := Go.Callee.builtin Go.Builtin.append, args := #[Go.Operand.tmp 21, Go.Operand.tmp 26], argTypes := #[33, 33] }, type := 33, pos := "runes.go:70", after := #[{ on := 0, ground := Go.Ground.data }, { on := 5, ground := Go.Ground.data }], guard := none }) rfl (fun K hK => ?_) AllReadyH.nil
            have hrowa := hrow0.alloc (.cells #[.string (strC c)] 9)
            refine step_app rfl (.tmp 21) (.tmp 26) 33 rfl B 9 16 (.string .empty) info_string rfl Tryz.underlying33 rfl hrowa rfl (reads_one rfl) (by simp [Value.oneCell']) (by omega) (by omega) (by simp; omega) ?_
            intro v' w3 hown' hgrow _
            obtain ⟨g', cap', rfl⟩ := ownsRow_succ hown'
            obtain ⟨hv1, hv2, hr2, hk2, hbb2⟩ := hbx0.appended (by decide) hrow0 hszw (Nat.le_refl _) hown' hgrow
            have hcx3 := hv1.cell
            have hfx3 := hv1.frozen
            have hf3 := (hS0.2.alloc (.cells #[.string (strC c)] 9)).kept hgrow ((hS0.2).not_row (by decide) hrow0)
            have hS3 : Below B w1 w3 ∧ Boxed w3 (B + 1) 3 (.int .i64 (f : Int)) := ⟨(hS0.1.trans ((Below.refl B W0).alloc hszw _)).grown hgrow (by simp; omega) fun k hk => (hrow0.lt k hk).1, hf3⟩
            have hS7 : Below B w1 (w3.setCell ⟨B, 0, none⟩ (.slice (some ⟨g', 0, none⟩) (done.length + 1) cap')) ∧ Boxed (w3.setCell ⟨B, 0, none⟩ (.slice (some ⟨g', 0, none⟩) (done.length + 1) cap')) (B + 1) 3 (.int .i64 (f : Int)) := ⟨hS0.1.trans hbb2, hf3.kept (grownBy_setCell' w3 B _) (by simp)⟩
            refine hK.out _ _ ?_ (fun hHeld => ?_)
            · (try dsimp only); (first | exact hS0 | exact hSa | exact hS3 | exact hS7)
            clear hK K
            try simp only [Act.put, List.setIfInBounds_toArray, List.set_cons_zero, List.set_cons_succ]
            refine wpAnyH_ready (rs := [7]) (by kernel_rfl) (by simp) ?_
            refine AllReadyH.cons (o := { dst := none, op := Go.Op.store 33 (Go.Operand.tmp 3) (Go.Operand.tmp 27), type := 0, pos := "runes.go:70", after := #[{ on := 6, ground := Go.Ground.data }, { on := 6, ground := Go.Ground.chain }, { on := 0, ground := Go.Ground.phase }, { on := 1, ground := Go.Ground.phase }, { on := 2, ground := Go.Ground.phase }, { on := 3, ground := Go.Ground.phase }, { on := 4, ground := Go.Ground.phase }, { on := 5, ground := Go.Ground.phase }, { on := 6, ground := Go.Ground.phase }], guard := none }) rfl (fun K hK => ?_) AllReadyH.nil
            go_simp
            refine hK.out _ _ ?_ (fun hHeld => ?_)
            · (try dsimp only); (first | exact hS0 | exact hSa | exact hS3 | exact hS7)
            clear hK K
            try simp only [Act.put, List.setIfInBounds_toArray, List.set_cons_zero, List.set_cons_succ]
            refine wpAnyH_done (by kernel_rfl) ?_ _
            refine NoPanic.normal ?_
            have hcf4 := hS7.2.cell
            have hff4 := hS7.2.frozen
            gi_wp2
            have hK5 := (hko.trans hk2).trans (KeepsOthers.setCell (w3.setCell ⟨B, 0, none⟩ (.slice (some ⟨g', 0, none⟩) (done.length + 1) cap')) ⟨B + 1, 0, none⟩ (.int .i64 (x.1 : Int)))
            have hr5 := hr2.kept (grownBy_setCell' (w3.setCell ⟨B, 0, none⟩ (.slice (some ⟨g', 0, none⟩) (done.length + 1) cap')) (B + 1) (.int .i64 (x.1 : Int))) (.inr (hS7.2.not_row (by decide) hr2).symm)
            refine ⟨hK5, ⟨hK5.size, fun k o h1 h2 => hK5.same k o h1 (Obj.not_cells_of_walk h2)⟩, _, done ++ [c], [x.2], x.1, hv2.kept (grownBy_setCell' _ (B + 1) _) (by simp), ?_, hS7.2.set _, HREL2.out, hS7.1.setCell (p := ⟨B + 1, 0, none⟩) (by show B ≤ B + 1; omega) _⟩
            rw [List.length_append]
            unfold strV at hr5 ⊢
            rw [List.map_append]
            exact hr5
          refine AllReadyH.cons (o := { dst := some 26, op := Go.Op.buildSlice 33 1 #[(0, Go.Operand.tmp 25)], type := 33, pos := "runes.go:70", after := #[{ on := 4, ground := Go.Ground.data }], guard := none }) rfl (fun K hK => ?_) AllReadyH.nil
          go_simp
          refine hK.out _ _ ?_ (fun hHeld => ?_)
          · (try dsimp only); (first | exact hS0 | exact hSa | exact hS3 | exact hS7)
          clear hK K
          try simp only [Act.put, List.setIfInBounds_toArray, List.set_cons_zero, List.set_cons_succ]
          refine wpAnyH_ready (rs := [0]) (by kernel_rfl) (by simp) ?_
          refine AllReadyH.cons (o := { dst := some 21, op := Go.Op.load 33 (Go.Operand.tmp 3), type := 33, pos := "runes.go:70", after := #[], guard := none }) rfl (fun K hK => ?_) AllReadyH.nil
          go_simp
          refine hK.out _ _ ?_ (fun hHeld => ?_)
          · (try dsimp only); (first | exact hS0 | exact hSa | exact hS3 | exact hS7)
          clear hK K
          try simp only [Act.put, List.setIfInBounds_toArray, List.set_cons_zero, List.set_cons_succ]
          refine wpAnyH_ready (rs := [6]) (by kernel_rfl) (by simp) ?_
          refine AllReadyH.cons (o := { dst := some 27, op := Go.Op.call { callee := Go.Callee.builtin Go.Builtin.append, args := #[Go.Operand.tmp 21, Go.Operand.tmp 26], argTypes := #[33, 33] }, type := 33, pos := "runes.go:70", after := #[{ on := 0, ground := Go.Ground.data }, { on := 5, ground := Go.Ground.data }], guard := none }) rfl (fun K hK => ?_) AllReadyH.nil
          have hrowa := hrow0.alloc (.cells #[.string (strC c)] 9)
          refine step_app rfl (.tmp 21) (.tmp 26) 33 rfl B 9 16 (.string .empty) info_string rfl Tryz.underlying33 rfl hrowa rfl (reads_one rfl) (by simp [Value.oneCell']) (by omega) (by omega) (by simp; omega) ?_
          intro v' w3 hown' hgrow _
          obtain ⟨g', cap', rfl⟩ := ownsRow_succ hown'
          obtain ⟨hv1, hv2, hr2, hk2, hbb2⟩ := hbx0.appended (by decide) hrow0 hszw (Nat.le_refl _) hown' hgrow
          have hcx3 := hv1.cell
          have hfx3 := hv1.frozen
          have hf3 := (hS0.2.alloc (.cells #[.string (strC c)] 9)).kept hgrow ((hS0.2).not_row (by decide) hrow0)
          have hS3 : Below B w1 w3 ∧ Boxed w3 (B + 1) 3 (.int .i64 (f : Int)) := ⟨(hS0.1.trans ((Below.refl B W0).alloc hszw _)).grown hgrow (by simp; omega) fun k hk => (hrow0.lt k hk).1, hf3⟩
          have hS7 : Below B w1 (w3.setCell ⟨B, 0, none⟩ (.slice (some ⟨g', 0, none⟩) (done.length + 1) cap')) ∧ Boxed (w3.setCell ⟨B, 0, none⟩ (.slice (some ⟨g', 0, none⟩) (done.length + 1) cap')) (B + 1) 3 (.int .i64 (f : Int)) := ⟨hS0.1.trans hbb2, hf3.kept (grownBy_setCell' w3 B _) (by simp)⟩
          refine hK.out _ _ ?_ (fun hHeld => ?_)
          · (try dsimp only); (first | exact hS0 | exact hSa | exact hS3 | exact hS7)
          clear hK K
          try simp only [Act.put, List.setIfInBounds_toArray, List.set_cons_zero, List.set_cons_succ]
          refine wpAnyH_ready (rs := [7]) (by kernel_rfl) (by simp) ?_
          refine AllReadyH.cons (o := { dst := none, op := Go.Op.store 33 (Go.Operand.tmp 3) (Go.Operand.tmp 27), type := 0, pos := "runes.go:70", after := #[{ on := 6, ground := Go.Ground.data }, { on := 6, ground := Go.Ground.chain }, { on := 0, ground := Go.Ground.phase }, { on := 1, ground := Go.Ground.phase }, { on := 2, ground := Go.Ground.phase }, { on := 3, ground := Go.Ground.phase }, { on := 4, ground := Go.Ground.phase }, { on := 5, ground := Go.Ground.phase }, { on := 6, ground := Go.Ground.phase }], guard := none }) rfl (fun K hK => ?_) AllReadyH.nil
          go_simp
          refine hK.out _ _ ?_ (fun hHeld => ?_)
          · (try dsimp only); (first | exact hS0 | exact hSa | exact hS3 | exact hS7)
          clear hK K
          try simp only [Act.put, List.setIfInBounds_toArray, List.set_cons_zero, List.set_cons_succ]
          refine wpAnyH_done (by kernel_rfl) ?_ _
          refine NoPanic.normal ?_
          have hcf4 := hS7.2.cell
          have hff4 := hS7.2.frozen
          gi_wp2
          have hK5 := (hko.trans hk2).trans (KeepsOthers.setCell (w3.setCell ⟨B, 0, none⟩ (.slice (some ⟨g', 0, none⟩) (done.length + 1) cap')) ⟨B + 1, 0, none⟩ (.int .i64 (x.1 : Int)))
          have hr5 := hr2.kept (grownBy_setCell' (w3.setCell ⟨B, 0, none⟩ (.slice (some ⟨g', 0, none⟩) (done.length + 1) cap')) (B + 1) (.int .i64 (x.1 : Int))) (.inr (hS7.2.not_row (by decide) hr2).symm)
          refine ⟨hK5, ⟨hK5.size, fun k o h1 h2 => hK5.same k o h1 (Obj.not_cells_of_walk h2)⟩, _, done ++ [c], [x.2], x.1, hv2.kept (grownBy_setCell' _ (B + 1) _) (by simp), ?_, hS7.2.set _, HREL2.out, hS7.1.setCell (p := ⟨B + 1, 0, none⟩) (by show B ≤ B + 1; omega) _⟩
          rw [List.length_append]
          unfold strV at hr5 ⊢
          rw [List.map_append]
          exact hr5
    case done =>
      rintro D xs W hD rfl ⟨v, done, c, f, hbx, hrow, hbf, hrel, hbw⟩ hK
      have hcs3 : W.cell? ⟨p0, 0, none⟩ = some (.string s) := (hbw.cell (p := ⟨p0, 0, none⟩) (by show p0 < B; omega)).trans hbs
      have hcf := hbf.cell
      have hcx := hbx.cell
      have hszB : w.heap.size ≤ B := by rw [HP0.out]; omega
      rcases hrel.fin HE.out with ⟨h1, h2, rfl, h4⟩ | ⟨h1, h2, h3, h4⟩
      · have hni : ¬ (f : Int) < (s.size : Int) := by omega
        have hni' : decide ((f : Int) < (s.size : Int)) = false := decide_eq_false hni
        gi_wp2_with (exfalso; omega)
        refine ⟨by simp, .inl ⟨_, _, rfl, run_takeDeferred hK, ?_⟩⟩
        refine ⟨_, results_tmp rfl _ _ _, ?_⟩
        have hfin := ownsRow_putObj hrow (.deferred none) hK rfl
        exact ⟨v, rfl, own_base hfin hszB, (HB1.out.trans (hbw.mono hszB)).trans (belowK_b (w := w) (Nat.le_refl _) W D _ (.deferred none) (by omega) hK rfl rfl)⟩
      · have hlt : (f : Int) < (s.size : Int) := by omega
        have hlt' : decide ((f : Int) < (s.size : Int)) = true := decide_eq_true hlt
        gi_wp2_with (exfalso; omega)
        have hle : f ≤ s.size := Nat.le_of_lt h1
        refine wpIn_wide.2 ?_
        have hS0 : Below B w1 W.drew ∧ Boxed W.drew (B + 1) 3 (.int .i64 (f : Int)) := ⟨hbw.drew, hbf⟩
        have hbx0 : Boxed W.drew B 33 v := hbx
        have hrow0 : W.drew.ownsRow B 9 1 v done.length (strV done) := hrow
        have hko : KeepsOthers W W.drew := ⟨Nat.le_refl _, fun _ _ h _ => h⟩
        have hkw : KeepsWalks W W.drew := ⟨Nat.le_refl _, fun _ _ h _ => h⟩
        refine wp_region_noPanic ?_
        refine wp_region_held_drew (S := (fun W => Below B w1 W ∧ Boxed W (B + 1) 3 (.int .i64 (f : Int)))) (by kernel_rfl) hS0 (fun hHeld0 => ?_)
        clear hHeld0
        have hcx0 := hbx0.cell
        have hszw : B ≤ W.drew.heap.size := Nat.le_of_lt hbx0.lt
        obtain ⟨W0, hW0⟩ : ∃ W0, W0 = W.drew := ⟨_, rfl⟩
        rw [← hW0] at hS0 hbx0 hrow0 hko hkw hcx0 hszw ⊢
        clear hW0
        have hcxa := (hbx0.alloc (.cells #[.string (strC c)] 9)).cell
        have hSa : Below B w1 (W0.alloc (.cells #[.string (strC c)] 9)) ∧ Boxed (W0.alloc (.cells #[.string (strC c)] 9)) (B + 1) 3 (.int .i64 (f : Int)) := ⟨hS0.1.trans ((Below.refl B W0).alloc hszw _), hS0.2.alloc _⟩
        have hHeld : (fun W => Below B w1 W ∧ Boxed W (B + 1) 3 (.int .i64 (f : Int))) W0 := hS0
        refine wpAnyH_take (i := 1) (oi := { dst := some 34, op := Go.Op.load 9 (Go.Operand.tmp 1), type := 9, pos := "runes.go:75", after := #[], guard := none }) (v := ?_) rfl (by kernel_rfl) (by kernel_rfl) (by kernel_rfl) (fun _ _ _ h => h) (Or.inl ⟨by rfl, ?_⟩) (by assumption) ?_
        rotate_left
        · (intro w hSw; (try dsimp only at hSw); have hc := (hSw.1.cell (p := ⟨p0, 0, none⟩) (by show p0 < B; omega)).trans hbs; go_simp; try with_reducible rfl)
        rotate_left
        try simp only [Act.put, List.setIfInBounds_toArray, List.set_cons_zero, List.set_cons_succ]
        refine wpAnyH_take (i := 2) (oi := { dst := some 35, op := Go.Op.load 3 (Go.Operand.tmp 4), type := 3, pos := "runes.go:75", after := #[], guard := none }) (v := ?_) rfl (by kernel_rfl) (by kernel_rfl) (by kernel_rfl) (fun _ _ _ h => h) (Or.inl ⟨by rfl, ?_⟩) (by assumption) ?_
        rotate_left
        · (intro w hSw; (try dsimp only at hSw); have hc := hSw.2.cell; go_simp; try with_reducible rfl)
        rotate_left
        try simp only [Act.put, List.setIfInBounds_toArray, List.set_cons_zero, List.set_cons_succ]
        refine wpAnyH_take (i := 3) (oi := { dst := some 36, op := Go.Op.slice 9 (Go.Operand.tmp 34) (some (Go.Operand.tmp 35)) none none, type := 9, pos := "runes.go:75", after := #[{ on := 1, ground := Go.Ground.data }, { on := 2, ground := Go.Ground.data }], guard := none }) (v := ?_) rfl (by kernel_rfl) (by kernel_rfl) (by kernel_rfl) (fun _ _ _ h => h) (Or.inl ⟨by rfl, ?_⟩) (by assumption) ?_
        rotate_left
        · (intro w hSw; (try dsimp only at hSw); go_simp; try with_reducible rfl)
        rotate_left
        try simp only [Act.put, List.setIfInBounds_toArray, List.set_cons_zero, List.set_cons_succ]
        refine wpAnyH_ready (rs := [0, 4]) (by kernel_rfl) (by simp) ?_
        refine AllReadyH.cons (o := { dst := some 33, op := Go.Op.load 33 (Go.Operand.tmp 3), type := 33, pos := "runes.go:75", after := #[], guard := none }) rfl (fun K hK => ?_) ?_
        · go_simp
          refine hK.out _ _ ?_ (fun hHeld => ?_)
          · (try dsimp only); (first | exact hS0 | exact hSa | exact hS3 | exact hS7)
          clear hK K
          try simp only [Act.put, List.setIfInBounds_toArray, List.set_cons_zero, List.set_cons_succ]
          refine wpAnyH_ready (rs := [4]) (by kernel_rfl) (by simp) ?_
          refine AllReadyH.cons (o := { dst := some 37, op := Go.Op.buildSlice 33 1 #[(0, Go.Operand.tmp 36)], type := 33, pos := "runes.go:75", after := #[{ on := 3, ground := Go.Ground.data }], guard := none }) rfl (fun K hK => ?_) AllReadyH.nil
          go_simp
          refine hK.out _ _ ?_ (fun hHeld => ?_)
          · (try dsimp only); (first | exact hS0 | exact hSa | exact hS3 | exact hS7)
          clear hK K
          try simp only [Act.put, List.setIfInBounds_toArray, List.set_cons_zero, List.set_cons_succ]
          refine wpAnyH_ready (rs := [5]) (by kernel_rfl) (by simp) ?_
          refine AllReadyH.cons (o := { dst := some 38, op := Go.Op.call { callee := Go.Callee.builtin Go.Builtin.append, args := #[Go.Operand.tmp 33, Go.Operand.tmp 37], argTypes := #[33, 33] }, type := 33, pos := "runes.go:75", after := #[{ on := 0, ground := Go.Ground.data }, { on := 4, ground := Go.Ground.data }], guard := none }) rfl (fun K hK => ?_) AllReadyH.nil
          have hrowa := hrow0.alloc (.cells #[.string (strC c)] 9)
          refine step_app rfl (.tmp 33) (.tmp 37) 33 rfl B 9 16 (.string .empty) info_string rfl Tryz.underlying33 rfl hrowa rfl (reads_one rfl) (by simp [Value.oneCell']) (by omega) (by omega) (by simp; omega) ?_
          intro v' w3 hown' hgrow _
          obtain ⟨g', cap', rfl⟩ := ownsRow_succ hown'
          obtain ⟨hv1, hv2, hr2, hk2, hbb2⟩ := hbx0.appended (by decide) hrow0 hszw (Nat.le_refl _) hown' hgrow
          have hcx3 := hv1.cell
          have hfx3 := hv1.frozen
          have hf3 := (hS0.2.alloc (.cells #[.string (strC c)] 9)).kept hgrow ((hS0.2).not_row (by decide) hrow0)
          have hS3 : Below B w1 w3 ∧ Boxed w3 (B + 1) 3 (.int .i64 (f : Int)) := ⟨(hS0.1.trans ((Below.refl B W0).alloc hszw _)).grown hgrow (by simp; omega) fun k hk => (hrow0.lt k hk).1, hf3⟩
          have hS7 : Below B w1 (w3.setCell ⟨B, 0, none⟩ (.slice (some ⟨g', 0, none⟩) (done.length + 1) cap')) ∧ Boxed (w3.setCell ⟨B, 0, none⟩ (.slice (some ⟨g', 0, none⟩) (done.length + 1) cap')) (B + 1) 3 (.int .i64 (f : Int)) := ⟨hS0.1.trans hbb2, hf3.kept (grownBy_setCell' w3 B _) (by simp)⟩
          refine hK.out _ _ ?_ (fun hHeld => ?_)
          · (try dsimp only); (first | exact hS0 | exact hSa | exact hS3 | exact hS7)
          clear hK K
          try simp only [Act.put, List.setIfInBounds_toArray, List.set_cons_zero, List.set_cons_succ]
          refine wpAnyH_ready (rs := [6]) (by kernel_rfl) (by simp) ?_
          refine AllReadyH.cons (o := { dst := none, op := Go.Op.store 33 (Go.Operand.tmp 3) (Go.Operand.tmp 38), type := 0, pos := "runes.go:75", after := #[{ on := 5, ground := Go.Ground.data }, { on := 5, ground := Go.Ground.chain }, { on := 0, ground := Go.Ground.phase }, { on := 1, ground := Go.Ground.phase }, { on := 2, ground := Go.Ground.phase }, { on := 3, ground := Go.Ground.phase }, { on := 4, ground := Go.Ground.phase }, { on := 5, ground := Go.Ground.phase }], guard := none }) rfl (fun K hK => ?_) AllReadyH.nil
          go_simp
          refine hK.out _ _ ?_ (fun hHeld => ?_)
          · (try dsimp only); (first | exact hS0 | exact hSa | exact hS3 | exact hS7)
          clear hK K
          try simp only [Act.put, List.setIfInBounds_toArray, List.set_cons_zero, List.set_cons_succ]
          refine wpAnyH_done (by kernel_rfl) ?_ _
          refine NoPanic.normal ?_
          have hK7 : (w3.setCell ⟨B, 0, none⟩ (.slice (some ⟨g', 0, none⟩) (done.length + 1) cap')).heap[D]? = some (Obj.deferred (some [])) := (hko.trans hk2).same _ _ hK rfl
          have hcx7 := hv2.cell
          gi_wp2
          refine ⟨by simp, .inl ⟨_, _, rfl, run_takeDeferred hK7, ?_⟩⟩
          refine ⟨_, results_tmp rfl _ _ _, ?_⟩
          have hfin := ownsRow_putObj hr2 (.deferred none) hK7 rfl
          exact ⟨_, rfl, own_base hfin hszB, (HB1.out.trans (hS7.1.mono hszB)).trans (belowK_b (w := w) (Nat.le_refl _) _ D _ (.deferred none) (by have := hbw.size; omega) hK7 rfl rfl)⟩
        refine AllReadyH.cons (o := { dst := some 37, op := Go.Op.buildSlice 33 1 #[(0, Go.Operand.tmp 36)], type := 33, pos := "runes.go:75", after := #[{ on := 3, ground := Go.Ground.data }], guard := none }) rfl (fun K hK => ?_) AllReadyH.nil
        go_simp
        refine hK.out _ _ ?_ (fun hHeld => ?_)
        · (try dsimp only); (first | exact hS0 | exact hSa | exact hS3 | exact hS7)
        clear hK K
        try simp only [Act.put, List.setIfInBounds_toArray, List.set_cons_zero, List.set_cons_succ]
        refine wpAnyH_ready (rs := [0]) (by kernel_rfl) (by simp) ?_
        refine AllReadyH.cons (o := { dst := some 33, op := Go.Op.load 33 (Go.Operand.tmp 3), type := 33, pos := "runes.go:75", after := #[], guard := none }) rfl (fun K hK => ?_) AllReadyH.nil
        go_simp
        refine hK.out _ _ ?_ (fun hHeld => ?_)
        · (try dsimp only); (first | exact hS0 | exact hSa | exact hS3 | exact hS7)
        clear hK K
        try simp only [Act.put, List.setIfInBounds_toArray, List.set_cons_zero, List.set_cons_succ]
        refine wpAnyH_ready (rs := [5]) (by kernel_rfl) (by simp) ?_
        refine AllReadyH.cons (o := { dst := some 38, op := Go.Op.call { callee := Go.Callee.builtin Go.Builtin.append, args := #[Go.Operand.tmp 33, Go.Operand.tmp 37], argTypes := #[33, 33] }, type := 33, pos := "runes.go:75", after := #[{ on := 0, ground := Go.Ground.data }, { on := 4, ground := Go.Ground.data }], guard := none }) rfl (fun K hK => ?_) AllReadyH.nil
        have hrowa := hrow0.alloc (.cells #[.string (strC c)] 9)
        refine step_app rfl (.tmp 33) (.tmp 37) 33 rfl B 9 16 (.string .empty) info_string rfl Tryz.underlying33 rfl hrowa rfl (reads_one rfl) (by simp [Value.oneCell']) (by omega) (by omega) (by simp; omega) ?_
        intro v' w3 hown' hgrow _
        obtain ⟨g', cap', rfl⟩ := ownsRow_succ hown'
        obtain ⟨hv1, hv2, hr2, hk2, hbb2⟩ := hbx0.appended (by decide) hrow0 hszw (Nat.le_refl _) hown' hgrow
        have hcx3 := hv1.cell
        have hfx3 := hv1.frozen
        have hf3 := (hS0.2.alloc (.cells #[.string (strC c)] 9)).kept hgrow ((hS0.2).not_row (by decide) hrow0)
        have hS3 : Below B w1 w3 ∧ Boxed w3 (B + 1) 3 (.int .i64 (f : Int)) := ⟨(hS0.1.trans ((Below.refl B W0).alloc hszw _)).grown hgrow (by simp; omega) fun k hk => (hrow0.lt k hk).1, hf3⟩
        have hS7 : Below B w1 (w3.setCell ⟨B, 0, none⟩ (.slice (some ⟨g', 0, none⟩) (done.length + 1) cap')) ∧ Boxed (w3.setCell ⟨B, 0, none⟩ (.slice (some ⟨g', 0, none⟩) (done.length + 1) cap')) (B + 1) 3 (.int .i64 (f : Int)) := ⟨hS0.1.trans hbb2, hf3.kept (grownBy_setCell' w3 B _) (by simp)⟩
        refine hK.out _ _ ?_ (fun hHeld => ?_)
        · (try dsimp only); (first | exact hS0 | exact hSa | exact hS3 | exact hS7)
        clear hK K
        try simp only [Act.put, List.setIfInBounds_toArray, List.set_cons_zero, List.set_cons_succ]
        refine wpAnyH_ready (rs := [6]) (by kernel_rfl) (by simp) ?_
        refine AllReadyH.cons (o := { dst := none, op := Go.Op.store 33 (Go.Operand.tmp 3) (Go.Operand.tmp 38), type := 0, pos := "runes.go:75", after := #[{ on := 5, ground := Go.Ground.data }, { on := 5, ground := Go.Ground.chain }, { on := 0, ground := Go.Ground.phase }, { on := 1, ground := Go.Ground.phase }, { on := 2, ground := Go.Ground.phase }, { on := 3, ground := Go.Ground.phase }, { on := 4, ground := Go.Ground.phase }, { on := 5, ground := Go.Ground.phase }], guard := none }) rfl (fun K hK => ?_) AllReadyH.nil
        go_simp
        refine hK.out _ _ ?_ (fun hHeld => ?_)
        · (try dsimp only); (first | exact hS0 | exact hSa | exact hS3 | exact hS7)
        clear hK K
        try simp only [Act.put, List.setIfInBounds_toArray, List.set_cons_zero, List.set_cons_succ]
        refine wpAnyH_done (by kernel_rfl) ?_ _
        refine NoPanic.normal ?_
        have hK7 : (w3.setCell ⟨B, 0, none⟩ (.slice (some ⟨g', 0, none⟩) (done.length + 1) cap')).heap[D]? = some (Obj.deferred (some [])) := (hko.trans hk2).same _ _ hK rfl
        have hcx7 := hv2.cell
        gi_wp2
        refine ⟨by simp, .inl ⟨_, _, rfl, run_takeDeferred hK7, ?_⟩⟩
        refine ⟨_, results_tmp rfl _ _ _, ?_⟩
        have hfin := ownsRow_putObj hr2 (.deferred none) hK7 rfl
        exact ⟨_, rfl, own_base hfin hszB, (HB1.out.trans (hS7.1.mono hszB)).trans (belowK_b (w := w) (Nat.le_refl _) _ D _ (.deferred none) (by have := hbw.size; omega) hK7 rfl rfl)⟩
end Go.Proofs.YtdpllfgnppeneaaGreatDoor
